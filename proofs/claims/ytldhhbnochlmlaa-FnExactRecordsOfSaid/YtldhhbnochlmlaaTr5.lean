/- Contracts: the records among tests. -/
import Derived.Test.YtldhhbnochlmlaaTr3
import Derived.Test.YtldhhbnochlmlaaI64
namespace Go.Proofs.Ytldhhbnochlmlaa
open Go.RowKit Go.BigFrame
attribute [local go_sem] sub_cell sub_frozen drewN_setCell

/-- The records among the first k tests. -/
def recN (l : List Tri) (pe : Int) : Nat → List Int
  | 0 => []
  | k + 1 => if k = 0 ∨ slowB pe (l.getD (bestN l pe k) (0, 0, 0)) (l.getD k (0, 0, 0)) = true then recN l pe k ++ [(k : Int)] else recN l pe k
theorem recN_len (l : List Tri) (pe : Int) (k : Nat) : (recN l pe k).length ≤ k := by
  induction k with
  | zero => simp [recN]
  | succ k ih =>
    rw [recN]
    split
    · simp; omega
    · omega
theorem recN_one (l : List Tri) (pe : Int) : recN l pe 1 = [0] := by simp [recN]
theorem recN_yes {l : List Tri} {pe : Int} {k q : Nat} {x y : Tri} (hq : bestN l pe k = q) (hx : l[q]? = some x) (hy : l[k]? = some y) (h : slowB pe x y = true) : recN l pe (k + 1) = recN l pe k ++ [(k : Int)] := by
  rw [recN, if_pos]
  right
  rw [hq]
  simp [List.getD, hx, hy, h]
theorem recN_no {l : List Tri} {pe : Int} {k q : Nat} {x y : Tri} (hk : 1 ≤ k) (hq : bestN l pe k = q) (hx : l[q]? = some x) (hy : l[k]? = some y) (h : slowB pe x y = false) : recN l pe (k + 1) = recN l pe k := by
  rw [recN, if_neg]
  rw [hq]
  simp [List.getD, hx, hy, h]
  omega
theorem recN_last (l : List Tri) (pe : Int) (k : Nat) : ∃ ys, recN l pe (k + 1) = ys ++ [(bestN l pe (k + 1) : Int)] := by
  induction k with
  | zero =>
    refine ⟨[], ?_⟩
    rw [recN_one, Nat.le_zero.1 (bestN_lt l pe 0)]
    rfl
  | succ k ih =>
    rw [recN]
    by_cases h : slowB pe (l.getD (bestN l pe (k + 1)) (0, 0, 0)) (l.getD (k + 1) (0, 0, 0)) = true
    · rw [if_pos (.inr h), bestN, if_pos h]
      exact ⟨_, rfl⟩
    · rw [if_neg (by rintro (h1 | h1); omega; exact h h1), bestN, if_neg h]
      exact ih

/-- What a function of records leaves. -/
def RecPost (l : List Tri) (pe : Int) (w : World) (r : Ending) (w' : World) : Prop :=
  ∃ v, r = .returned (.tuple #[v, .int .i64 (codeL l pe)]) ∧ w'.ownsRow w.heap.size 2 1 v (if codeL l pe = 0 then recN l pe l.length else []).length ((if codeL l pe = 0 then recN l pe l.length else []).map (Value.int .i64)) ∧ Below w.heap.size w w'
theorem RecPost.err {l : List Tri} {pe c : Int} {w w' : World} (h : codeL l pe = c) (hc : c ≠ 0) (hb : Below w.heap.size w w') : RecPost l pe w (.returned (.tuple #[.slice none 0 0, .int .i64 c])) w' := by
  refine ⟨_, by rw [h], ?_, hb⟩
  rw [h, if_neg hc]
  exact World.ownsRow_nil _ _ _ _
theorem RecPost.ok {l : List Tri} {pe : Int} {w w' : World} {v : Value} {n m : Nat} {xs : List Int} (h : codeL l pe = 0) (hl : l.length = n) (hx : recN l pe n = xs) (hm : xs.length = m) (hown : w'.ownsRow w.heap.size 2 1 v m (xs.map (Value.int .i64))) (hb : Below w.heap.size w w') :
    RecPost l pe w (.returned (.tuple #[v, .int .i64 0])) w' := by
  refine ⟨v, by rw [h], ?_, hb⟩
  rw [if_pos h, hl, hx, hm]
  exact hown

theorem info_int64 : (Try.prog.info? 2).map (fun i => (i.zero, i.size, i.bytes)) = some (some (.int .i64 0), 1, 8) := by kernel_rfl

set_option maxHeartbeats 2000000 in
theorem c_sRecordsOf (A : Option Addr) (n c : Nat) (l : List Tri) (pe : Int) (w : World) (ha : Sl trc w w.heap.size 3 A n l) (hn : n ≤ 1048576) :
    Calls Try.prog 40 #[.slice A n c, .int .i64 pe] w (RecPost l pe w) := by
  have hl := ha.1
  have HL := Lib.hid hl
  rcases codeL_cases l pe with h | h | h
  · obtain ⟨hok, hp⟩ := codeL_zero h
    obtain ⟨h40, hval⟩ := okT_at hok
    have HV := Lib.hid hval
    have HC := Lib.hid h
    have hn40 : n ≤ 40 := by omega
    clear h hok hval hl h40
    go_enter Try.func40, Try.ntmps40
    go_wp2_with (go_at_call 68; refine (c_l20List _ _ _ l _ _ HC.out _ ha hn).mono ?_; rintro r_ w1 ⟨rfl, hb1⟩; have hz1 := hb1.size)
    go_loopw [7, 8] (fun v i wr => ∃ k m : Nat, ∃ xs : List Int, k ≤ n ∧ m ≤ k ∧ (k = 0 ∨ 1 ≤ m) ∧ i = .int .i64 k ∧ wr.ownsRow w.heap.size 2 1 v m (xs.map (Value.int .i64)) ∧ Below w.heap.size w wr ∧ Hid (recN l pe k = xs ∧ xs.length = m)) (fun _ i _ => n - (intOf i).toNat)
    case atStart => exact ⟨0, 0, [], by omega, by omega, .inl rfl, rfl, World.ownsRow_made _ _ _ hz1 (by simp [maxLen]) rfl, by (repeat' (first | (with_reducible exact Below.refl _ _) | (with_reducible assumption) | (with_reducible refine below_drewN ?_ _) | (with_reducible refine Below.drew ?_) | (with_reducible refine Below.alloc ?_ ?_ _) | (with_reducible refine Below.setCell ?_ ?_ _) | go_size)), rfl, rfl⟩
    case round =>
      obtain ⟨k, m, xs, hk, hmk, hor, rfl, hown, hB, hx⟩ := hrel
      have hz := hB.size
      obtain ⟨A', c', rfl⟩ := own_slice hown
      by_cases hlt : k < n
      · by_cases hk0 : k = 0
        · subst hk0
          obtain rfl : m = 0 := by omega
          clear hor
          have HO := Lib.hid hown
          clear hown ha
          go_wp2_with fail
          refine wp_region_below (by kernel_rfl) (by kernel_rfl) ?_
          repeat (go_big_quiet_step (fail))
          refine wpQuiet_nil ?_
          intro _ hw'
          obtain ⟨⟨w9, hb9⟩, hw''⟩ := hw'
          subst hw''
          have hB9 := later hb9 (w := w) (by (repeat' (first | (with_reducible exact Below.refl _ _) | (with_reducible assumption) | (with_reducible refine below_drewN ?_ _) | (with_reducible refine Below.drew ?_) | (with_reducible refine Below.alloc ?_ ?_ _) | (with_reducible refine Below.setCell ?_ ?_ _) | go_size)))
          have hz9 := hB9.size
          have hown9 := World.ownsRow.kept HO.out (⟨hb9.os, hb9.tape, hb9.output, hb9.size, fun k hk _ => hb9.block k hk⟩ : World.grownBy _ _ none) (by cases (Value.ownBlock _) <;> simp)
          go_wp2_with (at_builtin; refine app1 rfl (.tmp 40) (.tmp 42) _ rfl w.heap.size 2 _ 8 Try.underlying53 info_int64 rfl _ _ rfl _ _ _ rfl hown9 rfl (by omega) (by omega) hz9 ?_; intro v' w2 hown2 hb2 _)
          go_roundw
          case rel => exact ⟨1, 1, [0], by omega, by omega, .inr (by omega), rfl, by have := hx.out; simp [recN] at this; subst this; simpa using hown2, hB9.trans hb2, recN_one l pe, rfl⟩
          case measure => simp [intOf]; omega
        · obtain ⟨k, rfl⟩ : ∃ k', k = k' + 1 := ⟨k - 1, by omega⟩
          obtain ⟨m, rfl⟩ : ∃ m', m = m' + 1 := ⟨m - 1, by omega⟩
          obtain ⟨ys, hys⟩ := recN_last l pe k
          have hbl := bestN_lt l pe k
          obtain ⟨q, hq⟩ : ∃ q, bestN l pe (k + 1) = q := ⟨_, rfl⟩
          rw [hq] at hys hbl
          have hxs : xs = ys ++ [(q : Int)] := by rw [← hx.out.1, hys]
          have hyl : ys.length = m := by have := hx.out.2; rw [hxs] at this; simpa using this
          obtain ⟨g, cap, hv, hg1, hg2⟩ := hown.form (by omega)
          simp only [Value.slice.injEq, true_and] at hv
          obtain ⟨rfl, rfl⟩ := hv
          have hcell := hown.cells (g := g) rfl m (.int .i64 q) (by rw [hxs, ← hyl]; simp)
          rw [Addr.add_lit] at hcell
          simp only [Nat.zero_add] at hcell
          have HQ := Lib.hid hq
          have HO := Lib.hid hown
          have hm1 : (m : Int) < ((m + 1 : Nat) : Int) := by omega
          have hqn : (q : Int) < (n : Int) := by omega
          have hkn : ((k : Int) + 1) < (n : Int) := by omega
          have hne : (((m : Int) + 1) == 0) = false := by simp; omega
          obtain ⟨b, o, s, e, t, s', e', t', rfl, hb1', hb2, hx', hy', c0, c1, c2, c0', c1', c2'⟩ := tr_at2 ha hB (show q < n by omega) hlt
          have v1 := Lib.hid (HV.out _ _ _ _ hx')
          have v2 := Lib.hid (HV.out _ _ _ _ hy')
          have HX := Lib.hid hx'
          have HY := Lib.hid hy'
          clear ha hx' hy' hown hq hys hxs hyl hor hk0
          cases hs : slowB pe (s, e, t) (s', e', t') <;> have HS := Lib.hid hs <;> clear hs
          · go_wp2_with fail
            go_quiet ((go_at_call 65; exact d0 (c_l20Less s e t s' e' t' _ _ _ _ _ _ HS.out _ v1.out v2.out hp c0 c1 c2 c0' c1' c2')))
            go_wp2_with fail
            go_roundw
            case rel => exact ⟨k + 2, m + 1, xs, by omega, by omega, .inr (by omega), by go_num, HO.out, by (repeat' (first | (with_reducible exact Below.refl _ _) | (with_reducible assumption) | (with_reducible refine below_drewN ?_ _) | (with_reducible refine Below.drew ?_) | (with_reducible refine Below.alloc ?_ ?_ _) | (with_reducible refine Below.setCell ?_ ?_ _) | go_size)), (recN_no (by omega) HQ.out HX.out HY.out HS.out).trans hx.out.1, hx.out.2⟩
            case measure => simp [intOf]; omega
          · go_wp2_with fail
            go_quiet ((go_at_call 65; exact d0 (c_l20Less s e t s' e' t' _ _ _ _ _ _ HS.out _ v1.out v2.out hp c0 c1 c2 c0' c1' c2')))
            go_wp2_with (at_builtin; refine app1 rfl (.tmp 40) (.tmp 42) _ rfl w.heap.size 2 _ 8 Try.underlying53 info_int64 rfl _ _ rfl _ _ _ rfl HO.out rfl (by omega) (by omega) hz ?_; intro v' w2 hown2 hb2 _)
            go_roundw
            case rel => exact ⟨k + 2, m + 2, xs ++ [((k + 1 : Nat) : Int)], by omega, by omega, .inr (by omega), by go_num, by simpa using hown2, Below.trans (by (repeat' (first | (with_reducible exact Below.refl _ _) | (with_reducible assumption) | (with_reducible refine below_drewN ?_ _) | (with_reducible refine Below.drew ?_) | (with_reducible refine Below.alloc ?_ ?_ _) | (with_reducible refine Below.setCell ?_ ?_ _) | go_size))) hb2, (recN_yes HQ.out HX.out HY.out HS.out).trans (by rw [hx.out.1]), by have := hx.out.2; simp; omega⟩
            case measure => simp [intOf]; omega
      · go_wp2_with fail
        go_returns
        obtain rfl : k = n := by omega
        exact RecPost.ok HC.out HL.out hx.out.1 hx.out.2 hown hB
  · have HC := Lib.hid h
    clear hl h
    go_enter Try.func40, Try.ntmps40
    go_wp2_with (go_at_call 68; refine (c_l20List _ _ _ l _ _ HC.out _ ha hn).mono ?_; rintro r_ w1 ⟨rfl, hb1⟩)
    go_returns
    exact RecPost.err HC.out (by decide) hb1
  · have HC := Lib.hid h
    clear hl h
    go_enter Try.func40, Try.ntmps40
    go_wp2_with (go_at_call 68; refine (c_l20List _ _ _ l _ _ HC.out _ ha hn).mono ?_; rintro r_ w1 ⟨rfl, hb1⟩)
    go_returns
    exact RecPost.err HC.out (by decide) hb1
set_option maxHeartbeats 4000000 in
theorem c_iRecordsOf (A : Option Addr) (n c : Nat) (l : List Tri) (pe : Int) (w : World) (ha : Sl trc w w.heap.size 3 A n l) (hn : n ≤ 1048576) :
    Calls Try.prog 41 #[.slice A n c, .int .i64 pe] w (RecPost l pe w) := by
  have hl := ha.1
  have HL := Lib.hid hl
  rcases codeL_cases l pe with h | h | h
  · obtain ⟨hok, hp⟩ := codeL_zero h
    obtain ⟨h40, hval⟩ := okT_at hok
    have HV := Lib.hid hval
    have HC := Lib.hid h
    have hn40 : n ≤ 40 := by omega
    clear h hok hval hl h40
    go_enter Try.func41, Try.ntmps41
    go_wp2_with (go_at_call 66; refine (c_trialsCode _ _ _ l _ _ HC.out _ ha hn).mono ?_; rintro r_ w1 ⟨rfl, hb1⟩; have hz1 := hb1.size)
    go_loopw [7, 8, 20] (fun v u i wr => ∃ k m q : Nat, ∃ xs : List Int, k ≤ n ∧ m ≤ k ∧ (k = 0 ∨ q < n) ∧ i = .int .i64 k ∧ u = .int .i64 q ∧ wr.ownsRow w.heap.size 2 1 v m (xs.map (Value.int .i64)) ∧ Below w.heap.size w wr ∧ Hid (recN l pe k = xs ∧ xs.length = m ∧ bestN l pe k = q)) (fun _ _ i _ => n - (intOf i).toNat)
    case atStart => exact ⟨0, 0, 0, [], by omega, by omega, .inl rfl, rfl, rfl, World.ownsRow_made _ _ _ hz1 (by simp [maxLen]) rfl, by (repeat' (first | (with_reducible exact Below.refl _ _) | (with_reducible assumption) | (with_reducible refine below_drewN ?_ _) | (with_reducible refine Below.drew ?_) | (with_reducible refine Below.alloc ?_ ?_ _) | (with_reducible refine Below.setCell ?_ ?_ _) | go_size)), rfl, rfl, rfl⟩
    case round =>
      obtain ⟨k, m, q, xs, hk, hmk, hor, rfl, rfl, hown, hB, hx⟩ := hrel
      have hz := hB.size
      by_cases hlt : k < n
      · have HO := Lib.hid hown
        clear hown
        by_cases hk0 : k = 0
        · subst hk0
          obtain rfl : m = 0 := by omega
          obtain ⟨b, o, s, e, t, rfl, hb1', hb2, hxx, c0, c1, c2⟩ := tr_at ha hB hlt
          simp only [Nat.zero_mul, Nat.add_zero] at c0 c1 c2
          clear hor ha hxx
          go_wp2_with fail
          refine wp_region_below (by kernel_rfl) (by kernel_rfl) ?_
          repeat (go_big_quiet_step (fail))
          refine wpQuiet_nil ?_
          intro _ hw'
          obtain ⟨⟨w9, hb9⟩, hw''⟩ := hw'
          subst hw''
          have hB9 := later hb9 (w := w) (by (repeat' (first | (with_reducible exact Below.refl _ _) | (with_reducible assumption) | (with_reducible refine below_drewN ?_ _) | (with_reducible refine Below.drew ?_) | (with_reducible refine Below.alloc ?_ ?_ _) | (with_reducible refine Below.setCell ?_ ?_ _) | go_size)))
          have hz9 := hB9.size
          have hr9 := later hb9 (w := wr) (by (repeat' (first | (with_reducible exact Below.refl _ _) | (with_reducible assumption) | (with_reducible refine below_drewN ?_ _) | (with_reducible refine Below.drew ?_) | (with_reducible refine Below.alloc ?_ ?_ _) | (with_reducible refine Below.setCell ?_ ?_ _) | go_size)))
          have hown9 := World.ownsRow.kept HO.out (⟨hr9.os, hr9.tape, hr9.output, hr9.size, fun k hk _ => hr9.block k hk⟩ : World.grownBy _ _ none) (by cases (Value.ownBlock _) <;> simp)
          go_wp2_with (at_builtin; refine app1 rfl (.tmp 37) (.tmp 39) _ rfl w.heap.size 2 _ 8 Try.underlying53 info_int64 rfl _ _ rfl _ _ _ rfl hown9 rfl (by omega) (by omega) hz9 ?_; intro v' w2 hown2 hb2 _)
          go_roundw
          case rel => exact ⟨1, 1, 0, [0], by omega, by omega, .inr (by omega), by go_num, rfl, by have := hx.out.1; simp [recN] at this; subst this; simpa using hown2, hB9.trans hb2, recN_one l pe, rfl, Nat.le_zero.1 (bestN_lt l pe 0)⟩
          case measure => simp [intOf]; omega
        · have hqn : q < n := by omega
          have hne : ((k : Int) == 0) = false := by simp; omega
          obtain ⟨b, o, s, e, t, s', e', t', rfl, hb1', hb2, hx', hy', c0, c1, c2, c0', c1', c2'⟩ := tr_at2 ha hB hqn hlt
          have v1 := Lib.hid (HV.out _ _ _ _ hx')
          have v2 := Lib.hid (HV.out _ _ _ _ hy')
          have HX := Lib.hid hx'
          have HY := Lib.hid hy'
          have hb3 : b < wr.heap.size + 1 := by omega
          have hk1 : 1 ≤ k := by omega
          clear ha hx' hy' hor hk0
          cases hs : slowB pe (s, e, t) (s', e', t') <;> have HS := Lib.hid hs <;> clear hs
          · go_wp2_with fail
            refine wp_region_below (by kernel_rfl) (by kernel_rfl) ?_
            repeat (go_big_quiet_step ((go_at_call 67; refine qBg (c_slower s e t s' e' t' _ _ HS.out _ v1.out v2.out hp) (by simp) ?_; intro w_ h_; exact h_)))
            refine wpQuiet_nil ?_
            intro _ hw'
            obtain ⟨⟨w9, hb9⟩, hw''⟩ := hw'
            subst hw''
            have hB9 := later hb9 (w := w) (by (repeat' (first | (with_reducible exact Below.refl _ _) | (with_reducible assumption) | (with_reducible refine below_drewN ?_ _) | (with_reducible refine Below.drew ?_) | (with_reducible refine Below.alloc ?_ ?_ _) | (with_reducible refine Below.setCell ?_ ?_ _) | go_size)))
            have hz9 := hB9.size
            have hr9 := later hb9 (w := wr) (by (repeat' (first | (with_reducible exact Below.refl _ _) | (with_reducible assumption) | (with_reducible refine below_drewN ?_ _) | (with_reducible refine Below.drew ?_) | (with_reducible refine Below.alloc ?_ ?_ _) | (with_reducible refine Below.setCell ?_ ?_ _) | go_size)))
            have hown9 := World.ownsRow.kept HO.out (⟨hr9.os, hr9.tape, hr9.output, hr9.size, fun k hk _ => hr9.block k hk⟩ : World.grownBy _ _ none) (by cases (Value.ownBlock _) <;> simp)
            go_wp2_with fail
            go_roundw
            case rel => exact ⟨k + 1, m, q, xs, by omega, by omega, .inr hqn, by go_num, rfl, hown9, hB9, (recN_no hk1 hx.out.2.2 HX.out HY.out HS.out).trans hx.out.1, hx.out.2.1, bestN_no hx.out.2.2 HX.out HY.out HS.out⟩
            case measure => simp [intOf]; omega
          · go_wp2_with fail
            refine wp_region_below (by kernel_rfl) (by kernel_rfl) ?_
            repeat (go_big_quiet_step ((go_at_call 67; refine qBg (c_slower s e t s' e' t' _ _ HS.out _ v1.out v2.out hp) (by simp) ?_; intro w_ h_; exact h_)))
            refine wpQuiet_nil ?_
            intro _ hw'
            obtain ⟨⟨w9, hb9⟩, hw''⟩ := hw'
            subst hw''
            have hB9 := later hb9 (w := w) (by (repeat' (first | (with_reducible exact Below.refl _ _) | (with_reducible assumption) | (with_reducible refine below_drewN ?_ _) | (with_reducible refine Below.drew ?_) | (with_reducible refine Below.alloc ?_ ?_ _) | (with_reducible refine Below.setCell ?_ ?_ _) | go_size)))
            have hz9 := hB9.size
            have hr9 := later hb9 (w := wr) (by (repeat' (first | (with_reducible exact Below.refl _ _) | (with_reducible assumption) | (with_reducible refine below_drewN ?_ _) | (with_reducible refine Below.drew ?_) | (with_reducible refine Below.alloc ?_ ?_ _) | (with_reducible refine Below.setCell ?_ ?_ _) | go_size)))
            have hown9 := World.ownsRow.kept HO.out (⟨hr9.os, hr9.tape, hr9.output, hr9.size, fun k hk _ => hr9.block k hk⟩ : World.grownBy _ _ none) (by cases (Value.ownBlock _) <;> simp)
            go_wp2_with (at_builtin; refine app1 rfl (.tmp 37) (.tmp 39) _ rfl w.heap.size 2 _ 8 Try.underlying53 info_int64 rfl _ _ rfl _ _ _ rfl hown9 rfl (by omega) (by omega) hz9 ?_; intro v' w2 hown2 hb2 _)
            go_roundw
            case rel => exact ⟨k + 1, m + 1, k, xs ++ [(k : Int)], by omega, by omega, .inr hlt, by go_num, rfl, by simpa using hown2, hB9.trans hb2, (recN_yes hx.out.2.2 HX.out HY.out HS.out).trans (by rw [hx.out.1]), by have := hx.out.2.1; simp; omega, bestN_yes hx.out.2.2 HX.out HY.out HS.out⟩
            case measure => simp [intOf]; omega
      · go_wp2_with fail
        go_returns
        obtain rfl : k = n := by omega
        exact RecPost.ok HC.out HL.out hx.out.1 hx.out.2.1 hown hB
  · have HC := Lib.hid h
    clear hl h
    go_enter Try.func41, Try.ntmps41
    go_wp2_with (go_at_call 66; refine (c_trialsCode _ _ _ l _ _ HC.out _ ha hn).mono ?_; rintro r_ w1 ⟨rfl, hb1⟩)
    go_returns
    exact RecPost.err HC.out (by decide) hb1
  · have HC := Lib.hid h
    clear hl h
    go_enter Try.func41, Try.ntmps41
    go_wp2_with (go_at_call 66; refine (c_trialsCode _ _ _ l _ _ HC.out _ ha hn).mono ?_; rintro r_ w1 ⟨rfl, hb1⟩)
    go_returns
    exact RecPost.err HC.out (by decide) hb1

/-- The records, none where the code is not 0. -/
def recZ (l : List Tri) (pe : Int) : List Int := if codeL l pe = 0 then recN l pe l.length else []
theorem RecPost.ints {l : List Tri} {pe : Int} {w w' : World} {r : Ending} (h : RecPost l pe w r w') : IntsPost (recZ l pe) (codeL l pe) w r w' := by
  obtain ⟨v, rfl, h1, h2⟩ := h
  exact IntsPost.mk_ rfl h1 h2
theorem recZ_len (l : List Tri) (pe : Int) : (recZ l pe).length ≤ l.length := by
  unfold recZ
  split
  · exact recN_len _ _ _
  · simp
end Go.Proofs.Ytldhhbnochlmlaa
