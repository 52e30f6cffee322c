/- Contracts: a result better than another; the closure that the sort calls. -/
import Derived.Test.YtbaomhneboojpaaDoorAh
import Derived.Test.YtbaomhneboojpaaDoorRk
import Derived.Test.YtbaomhneboojpaaDoorRs
namespace Go.Proofs.YtbaomhneboojpaaDoor
open Go.RowKit Go.BigFrame
attribute [local go_sem] sub_cell sub_frozen drewN_setCell ah_cell

/-- A result is better: more strokes, or as many and fewer errors. -/
def betB (x y : TResult) : Bool := decide (y.2.1 < x.2.1) || (decide (x.2.1 = y.2.1) && decide (x.2.2 < y.2.2))
def rdef : TResult := (ByteArray.empty, 0, 0)
/-- .. by places in a list. -/
def btr (l : List TResult) (i k : Nat) : Bool := betB (l.getD i rdef) (l.getD k rdef)
theorem betB_iff {x y : TResult} : betB x y = true ↔ y.2.1 < x.2.1 ∨ (x.2.1 = y.2.1 ∧ x.2.2 < y.2.2) := by simp [betB]
theorem betB_no {x y : TResult} : betB x y = false ↔ ¬ (y.2.1 < x.2.1 ∨ (x.2.1 = y.2.1 ∧ x.2.2 < y.2.2)) := by rw [← betB_iff]; simp
theorem btr_wk (l : List TResult) : Wk (btr l) where
  irr a := by unfold btr; rw [betB_no]; omega
  tr a b c h1 h2 := by unfold btr at *; rw [betB_iff] at *; omega
  ntr a b c h1 h2 := by unfold btr at *; rw [betB_no] at *; omega
theorem btr_of {l : List TResult} {i k : Nat} {x y : TResult} (hx : l[i]? = some x) (hy : l[k]? = some y) : btr l i k = betB x y := by
  simp [btr, List.getD, hx, hy]

set_option maxHeartbeats 1000000 in
theorem c_better (s s' : ByteArray) (n e n' e' : Int) (r : Bool) (h : betB (s, n, e) (s', n', e') = r) (w : World) :
    Calls Tryd.prog 26 #[.agg #[.string s, .int .i64 n, .int .i64 e], .agg #[.string s', .int .i64 n', .int .i64 e']] w fun z w' => z = .returned (.bool r) ∧ w' = (w.alloc (.cells #[.string s, .int .i64 n, .int .i64 e] 37)).alloc (.cells #[.string s', .int .i64 n', .int .i64 e'] 37) := by
  subst h
  by_cases h1 : n' < n
  · have hr : betB (s, n, e) (s', n', e') = true := betB_iff.2 (.inl h1)
    rw [hr]
    clear hr
    go_enter Tryd.func26, Tryd.ntmps26
    go_wp2_with fail
    go_ret
    exact ⟨rfl, rfl⟩
  · by_cases h2 : n = n'
    · subst h2
      have hr : betB (s, n, e) (s', n, e') = decide (e < e') := by simp [betB]
      rw [hr]
      clear hr h1
      by_cases h3 : e < e'
      · go_enter Tryd.func26, Tryd.ntmps26
        go_wp2_with fail
        go_ret
        exact ⟨by simp [h3], rfl⟩
      · go_enter Tryd.func26, Tryd.ntmps26
        go_wp2_with fail
        go_ret
        exact ⟨by simp [h3], rfl⟩
    · have hr : betB (s, n, e) (s', n', e') = false := betB_no.2 (by simp only; omega)
      rw [hr]
      have hq : (n == n') = false := by simpa using h2
      clear hr h2
      go_enter Tryd.func26, Tryd.ntmps26
      go_wp2_with fail
      go_ret
      exact ⟨rfl, rfl⟩

theorem c_betterG (s s' : ByteArray) (n e n' e' : Int) (r : Bool) (h : betB (s, n, e) (s', n', e') = r) (w : World) :
    Calls Tryd.prog 26 #[.agg #[.string s, .int .i64 n, .int .i64 e], .agg #[.string s', .int .i64 n', .int .i64 e']] w fun z w' => z = .returned (.bool r) ∧ ∃ q os, w' = Sort.grow (w.drewN q) os :=
  (c_better s s' n e n' e' r h w).mono fun _ _ h => ⟨h.1, by rw [h.2]; exact ahead_of_two⟩
set_option maxHeartbeats 1000000 in
theorem c_l22Better (s s' : ByteArray) (n e n' e' : Int) (b o b' o' : Nat) (r : Bool) (h : betB (s, n, e) (s', n', e') = r) (w : World)
    (c1 : w.cell? ⟨b, o + 1, none⟩ = some (.int .i64 n)) (c2 : w.cell? ⟨b, o + 2, none⟩ = some (.int .i64 e)) (c1' : w.cell? ⟨b', o' + 1, none⟩ = some (.int .i64 n')) (c2' : w.cell? ⟨b', o' + 2, none⟩ = some (.int .i64 e')) :
    Calls Tryd.prog 21 #[.pointer (some ⟨b, o, none⟩), .pointer (some ⟨b', o', none⟩)] w fun z w' => z = .returned (.bool r) ∧ Draws w w' := by
  subst h
  by_cases h1 : n' < n
  · have hr : betB (s, n, e) (s', n', e') = true := betB_iff.2 (.inl h1)
    rw [hr]
    have hd : decide (n' < n) = true := by simpa using h1
    clear hr
    go_enter Tryd.func21, Tryd.ntmps21
    go_wp2_with fail
    go_quiet (fail)
    go_wp2_with fail
    go_ret
    exact ⟨rfl, draws_N _ _⟩
  · have hd : decide (n' < n) = false := by simpa using h1
    by_cases h2 : n = n'
    · subst h2
      have hr : betB (s, n, e) (s', n, e') = decide (e < e') := by simp [betB]
      rw [hr]
      clear hr
      by_cases h3 : e < e'
      · go_enter Tryd.func21, Tryd.ntmps21
        go_wp2_with fail
        go_quiet (fail)
        go_wp2_with fail
        go_ret
        exact ⟨by simp [h3], draws_N _ _⟩
      · go_enter Tryd.func21, Tryd.ntmps21
        go_wp2_with fail
        go_quiet (fail)
        go_wp2_with fail
        go_ret
        exact ⟨by simp, draws_N _ _⟩
    · have hr : betB (s, n, e) (s', n', e') = false := betB_no.2 (by simp only; omega)
      rw [hr]
      have hq : (n == n') = false := by simpa using h2
      clear hr h2
      go_enter Tryd.func21, Tryd.ntmps21
      go_wp2_with fail
      go_quiet (fail)
      go_wp2_with fail
      go_ret
      exact ⟨rfl, draws_N _ _⟩

set_option maxHeartbeats 2000000 in
/-- The closure: places i and k of 'order' (block O's slice), compared by the list (block L's). -/
theorem c_rkLess (L O blk b o n m c c' : Nat) (i k p q : Nat) (s s' : ByteArray) (x e x' e' : Int) (r : Bool) (h : betB (s, x, e) (s', x', e') = r) (w : World) (hi : i < m) (hk : k < m) (hp : p < n) (hq : q < n) (_hn : n ≤ 1048576) (_hm : m ≤ 1048576)
    (hL : L < w.heap.size) (hO : O < w.heap.size) (hb : b < w.heap.size) (hk2 : blk < w.heap.size)
    (d0 : w.cell? ⟨L, 0, none⟩ = some (.slice (some ⟨b, o, none⟩) n c)) (d1 : w.cell? ⟨O, 0, none⟩ = some (.slice (some ⟨blk, 0, none⟩) m c'))
    (a0 : w.cell? ⟨blk, i, none⟩ = some (.int .i64 p)) (a1 : w.cell? ⟨blk, k, none⟩ = some (.int .i64 q))
    (c0 : w.cell? ⟨b, o + p * 3, none⟩ = some (.string s)) (c1 : w.cell? ⟨b, o + p * 3 + 1, none⟩ = some (.int .i64 x)) (c2 : w.cell? ⟨b, o + p * 3 + 2, none⟩ = some (.int .i64 e))
    (f0 : w.cell? ⟨b, o + q * 3, none⟩ = some (.string s')) (f1 : w.cell? ⟨b, o + q * 3 + 1, none⟩ = some (.int .i64 x')) (f2 : w.cell? ⟨b, o + q * 3 + 2, none⟩ = some (.int .i64 e')) :
    Calls Tryd.prog 35 #[.int .i64 i, .int .i64 k, .pointer (some ⟨L, 0, none⟩), .pointer (some ⟨O, 0, none⟩)] w fun z w' => z = .returned (.bool r) ∧ ∃ q os, w' = Sort.grow (w.drewN q) os := by
  have H := Lib.hid h
  clear h
  have i1 : (i : Int) < m := by omega
  have i2 : (k : Int) < m := by omega
  have i3 : (p : Int) < n := by omega
  have i4 : (q : Int) < n := by omega
  have a0' : w.cell? ⟨blk, 0 + i, none⟩ = some (.int .i64 p) := by rw [Nat.zero_add]; exact a0
  have a1' : w.cell? ⟨blk, 0 + k, none⟩ = some (.int .i64 q) := by rw [Nat.zero_add]; exact a1
  go_enter Tryd.func35, Tryd.ntmps35
  go_wp2_with fail
  refine wp_region_ahead (by kernel_rfl) (by kernel_rfl) ?_
  repeat (go_big_quiet_step ((go_at_call 26; exact qAh (c_betterG s s' x e x' e' _ H.out _))))
  refine wpQuiet_nil ?_
  intro _ hw'
  obtain ⟨⟨w9, hb9⟩, hw''⟩ := hw'
  subst hw''
  have HB := Lib.hid hb9
  clear hb9
  go_wp2_with fail
  go_ret
  exact ⟨rfl, HB.out⟩
end Go.Proofs.YtbaomhneboojpaaDoor
