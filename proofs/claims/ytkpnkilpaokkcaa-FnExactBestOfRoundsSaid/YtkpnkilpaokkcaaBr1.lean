/- Contracts: a result better than another; the best results of rounds, plain. -/
import Derived.Test.YtkpnkilpaokkcaaRs
import Derived.Test.YtkpnkilpaokkcaaIm
namespace Go.Proofs.Ytkpnkilpaokkcaa
open Go.RowKit Go.BigFrame
attribute [local go_sem] sub_cell sub_frozen drewN_setCell

/-- A result is better: more strokes, or as many and fewer errors. -/
def betB (x y : TResult) : Bool := decide (y.2.1 < x.2.1) || (decide (x.2.1 = y.2.1) && decide (x.2.2 < y.2.2))
def rdef : TResult := (ByteArray.empty, 0, 0)
/-- .. by places in a list. -/
def btr (l : List TResult) (i k : Nat) : Bool := betB (l.getD i rdef) (l.getD k rdef)
theorem betB_iff {x y : TResult} : betB x y = true ↔ y.2.1 < x.2.1 ∨ (x.2.1 = y.2.1 ∧ x.2.2 < y.2.2) := by simp [betB]
theorem betB_no {x y : TResult} : betB x y = false ↔ ¬ (y.2.1 < x.2.1 ∨ (x.2.1 = y.2.1 ∧ x.2.2 < y.2.2)) := by rw [← betB_iff]; simp
set_option maxHeartbeats 1000000 in
theorem c_better (s s' : ByteArray) (n e n' e' : Int) (r : Bool) (h : betB (s, n, e) (s', n', e') = r) (w : World) :
    Calls Try.prog 18 #[.agg #[.string s, .int .i64 n, .int .i64 e], .agg #[.string s', .int .i64 n', .int .i64 e']] w fun z w' => z = .returned (.bool r) ∧ w' = (w.alloc (.cells #[.string s, .int .i64 n, .int .i64 e] 38)).alloc (.cells #[.string s', .int .i64 n', .int .i64 e'] 38) := by
  subst h
  by_cases h1 : n' < n
  · have hr : betB (s, n, e) (s', n', e') = true := betB_iff.2 (.inl h1)
    rw [hr]
    clear hr
    go_enter Try.func18, Try.ntmps18
    go_wp2_with fail
    go_ret
    exact ⟨rfl, rfl⟩
  · by_cases h2 : n = n'
    · subst h2
      have hr : betB (s, n, e) (s', n, e') = decide (e < e') := by simp [betB]
      rw [hr]
      clear hr h1
      by_cases h3 : e < e'
      · go_enter Try.func18, Try.ntmps18
        go_wp2_with fail
        go_ret
        exact ⟨by simp [h3], rfl⟩
      · go_enter Try.func18, Try.ntmps18
        go_wp2_with fail
        go_ret
        exact ⟨by simp [h3], rfl⟩
    · have hr : betB (s, n, e) (s', n', e') = false := betB_no.2 (by simp only; omega)
      rw [hr]
      have hq : (n == n') = false := by simpa using h2
      clear hr h2
      go_enter Try.func18, Try.ntmps18
      go_wp2_with fail
      go_ret
      exact ⟨rfl, rfl⟩

set_option maxHeartbeats 1000000 in
theorem c_l22Better (s s' : ByteArray) (n e n' e' : Int) (b o b' o' : Nat) (r : Bool) (h : betB (s, n, e) (s', n', e') = r) (w : World)
    (c1 : w.cell? ⟨b, o + 1, none⟩ = some (.int .i64 n)) (c2 : w.cell? ⟨b, o + 2, none⟩ = some (.int .i64 e)) (c1' : w.cell? ⟨b', o' + 1, none⟩ = some (.int .i64 n')) (c2' : w.cell? ⟨b', o' + 2, none⟩ = some (.int .i64 e')) :
    Calls Try.prog 15 #[.pointer (some ⟨b, o, none⟩), .pointer (some ⟨b', o', none⟩)] w fun z w' => z = .returned (.bool r) ∧ Draws w w' := by
  subst h
  by_cases h1 : n' < n
  · have hr : betB (s, n, e) (s', n', e') = true := betB_iff.2 (.inl h1)
    rw [hr]
    have hd : decide (n' < n) = true := by simpa using h1
    clear hr
    go_enter Try.func15, Try.ntmps15
    go_wp2_with fail
    go_quiet (fail)
    go_wp2_with fail
    go_ret
    exact ⟨rfl, draws_N _ _⟩
  · have hd : decide (n' < n) = false := by simpa using h1
    by_cases h2 : n = n'
    · subst h2
      have hr : betB (s, n, e) (s', n, e') = decide (e < e') := by simp [betB]
      rw [hr]
      clear hr
      by_cases h3 : e < e'
      · go_enter Try.func15, Try.ntmps15
        go_wp2_with fail
        go_quiet (fail)
        go_wp2_with fail
        go_ret
        exact ⟨by simp [h3], draws_N _ _⟩
      · go_enter Try.func15, Try.ntmps15
        go_wp2_with fail
        go_quiet (fail)
        go_wp2_with fail
        go_ret
        exact ⟨by simp, draws_N _ _⟩
    · have hr : betB (s, n, e) (s', n', e') = false := betB_no.2 (by simp only; omega)
      rw [hr]
      have hq : (n == n') = false := by simpa using h2
      clear hr h2
      go_enter Try.func15, Try.ntmps15
      go_wp2_with fail
      go_quiet (fail)
      go_wp2_with fail
      go_ret
      exact ⟨rfl, draws_N _ _⟩


theorem ress_len {l : List TResult} (h : ressB l = true) : l.length ≤ 40 := by
  simp only [ressB, Bool.and_eq_true, decide_eq_true_eq] at h
  exact h.2
/-- The names that came, the newest first. -/
def nmR (out : List TResult) : List ByteArray := (out.map (·.1)).reverse
/-- One result more. -/
def stepR (out : List TResult) (x : TResult) : List TResult :=
  if x.1 ∈ nmR out then (if betB x (out.getD (posR (nmR out) x.1) rdef) = true then out.set (posR (nmR out) x.1) x else out) else out ++ [x]
def runR (l : List TResult) : List TResult := l.foldl stepR []
theorem runR_snoc (l : List TResult) (x : TResult) : runR (l ++ [x]) = stepR (runR l) x := by simp [runR]
theorem nmR_len (out : List TResult) : (nmR out).length = out.length := by simp [nmR]
theorem nmR_snoc (out : List TResult) (x : TResult) : nmR (out ++ [x]) = x.1 :: nmR out := by simp [nmR]
theorem pos_at {out : List TResult} {nm : ByteArray} (h : nm ∈ nmR out) : ∃ y, out[posR (nmR out) nm]? = some y ∧ y.1 = nm := by
  have h1 := posR_get h
  rw [nmR, List.reverse_reverse, List.getElem?_map] at h1
  obtain ⟨y, hy, e⟩ := Option.map_eq_some_iff.1 h1
  exact ⟨y, hy, e⟩
theorem nmR_set {out : List TResult} {x y : TResult} {j : Nat} (hy : out[j]? = some y) (e : y.1 = x.1) : nmR (out.set j x) = nmR out := by
  unfold nmR
  congr 1
  apply List.ext_getElem?
  intro i
  rw [List.getElem?_map, List.getElem?_map, List.getElem?_set]
  obtain ⟨hj, hv⟩ := List.getElem?_eq_some_iff.1 hy
  by_cases h : j = i
  · subst h
    rw [if_pos rfl, if_pos hj, hy]
    simp [e]
  · rw [if_neg h]
theorem stepR_new {out : List TResult} {x : TResult} (h : x.1 ∉ nmR out) : stepR out x = out ++ [x] := by simp [stepR, h]
theorem stepR_old {out : List TResult} {x y : TResult} (h : x.1 ∈ nmR out) (hy : out[posR (nmR out) x.1]? = some y) : stepR out x = if betB x y = true then out.set (posR (nmR out) x.1) x else out := by
  simp [stepR, h, List.getD, hy]
theorem stepR_names {out : List TResult} (x : TResult) : nmR (stepR out x) = if x.1 ∈ nmR out then nmR out else x.1 :: nmR out := by
  by_cases h : x.1 ∈ nmR out
  · obtain ⟨y, hy, e⟩ := pos_at h
    rw [stepR_old h hy, if_pos h]
    split
    · exact nmR_set hy e
    · rfl
  · rw [stepR_new h, nmR_snoc, if_neg h]
theorem stepR_nodup {out : List TResult} (x : TResult) (h : (nmR out).Nodup) : (nmR (stepR out x)).Nodup := by
  rw [stepR_names]
  split
  · exact h
  · rename_i hx; exact List.nodup_cons.2 ⟨hx, h⟩
theorem runR_nodup (l : List TResult) : (nmR (runR l)).Nodup := by
  suffices h : ∀ l : List TResult, ∀ out, (nmR out).Nodup → (nmR (l.foldl stepR out)).Nodup from h l [] (by simp [nmR])
  intro l
  induction l with
  | nil => intro out h; exact h
  | cons a l ih => intro out h; exact ih _ (stepR_nodup a h)
theorem stepR_len (out : List TResult) (x : TResult) : (stepR out x).length ≤ out.length + 1 := by
  unfold stepR
  split
  · split <;> simp
  · simp
theorem runR_len (l : List TResult) : (runR l).length ≤ l.length := by
  suffices h : ∀ l : List TResult, ∀ out, (l.foldl stepR out).length ≤ out.length + l.length by have := h l []; simpa [runR] using this
  intro l
  induction l with
  | nil => intro out; simp
  | cons a l ih => intro out; have := ih (stepR out a); have := stepR_len out a; simp; omega
/-- Where a name stands last among the first k; -1 if nowhere. -/
def lastN (out : List TResult) (nm : ByteArray) : Nat → Int
  | 0 => -1
  | k + 1 => match out[k]? with
    | some y => if y.1 = nm then (k : Int) else lastN out nm k
    | none => lastN out nm k
section
variable {out : List TResult} {nm : ByteArray} {k : Nat} {y : TResult}
theorem lastN_hit (h : out[k]? = some y) (e : y.1 = nm) : lastN out nm (k + 1) = k := by simp [lastN, h, e]
theorem lastN_miss (h : out[k]? = some y) (e : y.1 ≠ nm) : lastN out nm (k + 1) = lastN out nm k := by simp [lastN, h, e]
theorem lastN_bd (out : List TResult) (nm : ByteArray) (k : Nat) : -1 ≤ lastN out nm k ∧ lastN out nm k < k := by
  induction k with
  | zero => simp [lastN]
  | succ k ih =>
    rw [lastN]
    split
    · split <;> omega
    · omega
theorem nm_uniq (hn : (nmR out).Nodup) {i j : Nat} {x y : TResult} (hi : out[i]? = some x) (hj : out[j]? = some y) (e : x.1 = y.1) : i = j := by
  have hn2 : (out.map (·.1)).Nodup := by
    have h1 := hn
    unfold nmR at h1
    rw [List.nodup_iff_pairwise_ne] at h1 ⊢
    rw [List.pairwise_reverse] at h1
    exact h1.imp (fun h e => h e.symm)
  obtain ⟨h1, h2⟩ := List.getElem?_eq_some_iff.1 hi
  obtain ⟨h3, h4⟩ := List.getElem?_eq_some_iff.1 hj
  have hp := List.pairwise_iff_getElem.1 hn2
  rcases Nat.lt_trichotomy i j with h | h | h
  · exact (hp i j (by simpa using h1) (by simpa using h3) h (by simp only [List.getElem_map]; rw [h2, h4]; exact e)).elim
  · exact h
  · exact (hp j i (by simpa using h3) (by simpa using h1) h (by simp only [List.getElem_map]; rw [h2, h4]; exact e.symm)).elim
theorem lastN_none (h : nm ∉ nmR out) : ∀ k, k ≤ out.length → lastN out nm k = -1 := by
  intro k
  induction k with
  | zero => intro _; rfl
  | succ k ih =>
    intro hk
    have hg := List.getElem?_eq_getElem (show k < out.length by omega)
    rw [lastN_miss hg (fun e => h (by unfold nmR; rw [List.mem_reverse]; exact List.mem_map.2 ⟨_, List.getElem_mem _, e⟩))]
    exact ih (by omega)
theorem lastN_end (hn : (nmR out).Nodup) (h : nm ∈ nmR out) : ∀ k, k ≤ out.length → posR (nmR out) nm < k → lastN out nm k = (posR (nmR out) nm : Nat) := by
  obtain ⟨y, hy, e⟩ := pos_at h
  intro k
  induction k with
  | zero => intro _ h; omega
  | succ k ih =>
    intro hk hp
    have hg := List.getElem?_eq_getElem (show k < out.length by omega)
    by_cases hkp : k = posR (nmR out) nm
    · rw [← hkp] at hy
      rw [lastN_hit hy e, hkp]
    · rw [lastN_miss hg (fun e2 => hkp (nm_uniq hn hg hy (e2.trans e.symm)))]
      exact ih (by omega) (by omega)
end
/-- What BestOfRounds answers. -/
def brOk (ll : List (List TResult)) : Bool := ll.all ressB
def brL (ll : List (List TResult)) : List TResult := if brOk ll = true then (if ll.length ≤ 10 then runR ll.flatten else []) else []
def brC (ll : List (List TResult)) : Int := if brOk ll = true then (if ll.length ≤ 10 then 0 else 2) else 1
theorem flat_le {ll : List (List TResult)} {m : Nat} (h : ∀ l ∈ ll, l.length ≤ m) : ll.flatten.length ≤ ll.length * m := by
  induction ll with
  | nil => simp
  | cons a ll ih =>
    have h1 := h a (by simp)
    have h2 := ih fun l hl => h l (by simp [hl])
    rw [List.flatten_cons, List.length_append, List.length_cons, Nat.succ_mul]
    omega
theorem brL_len (ll : List (List TResult)) : (brL ll).length ≤ 400 := by
  unfold brL
  split
  · rename_i h
    split
    · rename_i h10
      have h1 := runR_len ll.flatten
      have h2 := flat_le (ll := ll) (m := 40) (fun l hl => by
        have := (List.all_eq_true.1 h) l hl
        exact ress_len this)
      have h3 : ll.length * 40 ≤ 10 * 40 := Nat.mul_le_mul_right _ h10
      omega
    · simp
  · simp
/-- The results of the first i rounds and of the first k of the next one. -/
theorem take_flat {ll : List (List TResult)} {i k : Nat} {l : List TResult} {x : TResult} (_hi : ll[i]? = some l) (hk : l[k]? = some x) : (ll.take i).flatten ++ l.take (k + 1) = ((ll.take i).flatten ++ l.take k) ++ [x] := by
  rw [List.take_add_one, hk, Option.toList_some, List.append_assoc]
theorem take_next {ll : List (List TResult)} {i : Nat} {l : List TResult} (hi : ll[i]? = some l) : (ll.take (i + 1)).flatten = (ll.take i).flatten ++ l := by
  rw [List.take_add_one, hi, Option.toList_some, List.flatten_append]
  simp
end Go.Proofs.Ytkpnkilpaokkcaa
