/- Plain: ways of a carriage over columns 0 to 30 with stops; the least numbers of moves. No program in sight. -/
import Derived.Test.YtgigdipbfcffiaaBase
namespace Go.Proofs.Ytgigdipbfcffiaa

/-- The next stop behind a column. -/
def nxtS : List Int → Int → Option Int
  | [], _ => none
  | s :: st, c => if c < s then some s else nxtS st c
theorem nxt_mem {st : List Int} {c x : Int} (h : nxtS st c = some x) : x ∈ st ∧ c < x := by
  induction st with
  | nil => simp [nxtS] at h
  | cons s st ih =>
    rw [nxtS] at h
    split at h
    · simp only [Option.some.injEq] at h
      subst h
      exact ⟨List.mem_cons_self, by assumption⟩
    · exact ⟨List.mem_cons_of_mem _ (ih h).1, (ih h).2⟩
theorem nxt_at {st : List Int} {c s : Int} {k : Nat} (hn : ∀ x ∈ st.take k, x ≤ c) (hk : st[k]? = some s) (hs : c < s) : nxtS st c = some s := by
  induction st generalizing k with
  | nil => simp at hk
  | cons a st ih =>
    cases k with
    | zero => simp at hk; subst hk; simp [nxtS, hs]
    | succ k =>
      have ha := hn a (by simp)
      rw [nxtS, if_neg (by omega)]
      exact ih (k := k) (fun x hx => hn x (by simp [hx])) (by simpa using hk)
theorem nxt_none {st : List Int} {c : Int} (hn : ∀ x ∈ st, x ≤ c) : nxtS st c = none := by
  induction st with
  | nil => rfl
  | cons a st ih =>
    have ha := hn a (by simp)
    rw [nxtS, if_neg (by omega)]
    exact ih fun x hx => hn x (by simp [hx])
theorem nxt_more {st : List Int} {c x : Int} (y : Int) (h : nxtS st c = some x) : nxtS (st ++ [y]) c = some x := by
  induction st with
  | nil => simp [nxtS] at h
  | cons s st ih =>
    rw [nxtS] at h
    rw [List.cons_append, nxtS]
    split
    · rename_i h1; rw [if_pos h1] at h; exact h
    · rename_i h1; rw [if_neg h1] at h; exact ih h
/-- A move from a column: to the next stop, to the left, to the right. -/
def mvC (st : List Int) (c : Int) (j : Nat) : Option Int :=
  match j with
  | 0 => nxtS st c
  | 1 => if 0 < c then some (c - 1) else none
  | 2 => if c < 30 then some (c + 1) else none
  | _ => none
def StopsOk (st : List Int) : Prop := ∀ x ∈ st, 1 ≤ x ∧ x ≤ 30
theorem mv_in {st : List Int} {c x : Int} {j : Nat} (ho : StopsOk st) (h0 : 0 ≤ c) (h1 : c ≤ 30) (h : mvC st c j = some x) : 0 ≤ x ∧ x ≤ 30 := by
  match j, h with
  | 0, h =>
    have := ho x (nxt_mem h).1
    omega
  | 1, h => simp [mvC] at h; omega
  | 2, h => simp [mvC] at h; omega
  | _ + 3, h => simp [mvC] at h
theorem mv_more {st : List Int} {c x : Int} {j : Nat} (y : Int) (h : mvC st c j = some x) : mvC (st ++ [y]) c j = some x := by
  match j, h with
  | 0, h => exact nxt_more y h
  | 1, h => exact h
  | 2, h => exact h
  | _ + 3, h => simp [mvC] at h
/-- The least numbers of moves to a column. -/
structure IsD (st : List Int) (to : Int) (D : Int → Int) : Prop where
  here : D to = 0
  pos : ∀ c, 0 ≤ c → c ≤ 30 → 0 ≤ D c
  way : ∀ c, 0 ≤ c → c ≤ 30 → c ≠ to → ∃ j x, j < 3 ∧ mvC st c j = some x ∧ D c = D x + 1
  least : ∀ c, 0 ≤ c → c ≤ 30 → ∀ j x, j < 3 → mvC st c j = some x → D c ≤ D x + 1
section
variable {st : List Int} {to : Int} {D : Int → Int}
theorem IsD.right (h : IsD st to D) (t0 : 0 ≤ to) (t1 : to ≤ 30) : ∀ n : Nat, to - (n : Int) ≥ 0 → D (to - n) ≤ n := by
  intro n
  induction n with
  | zero => intro _; simp [h.here]
  | succ n ih =>
    intro hn
    have h1 := ih (by omega)
    have h2 := h.least (to - (n + 1 : Nat)) (by omega) (by omega) 2 (to - n) (by omega) (by simp [mvC]; omega)
    omega
theorem IsD.left (h : IsD st to D) (t0 : 0 ≤ to) (t1 : to ≤ 30) : ∀ n : Nat, to + (n : Int) ≤ 30 → D (to + n) ≤ n := by
  intro n
  induction n with
  | zero => intro _; simp [h.here]
  | succ n ih =>
    intro hn
    have h1 := ih (by omega)
    have h2 := h.least (to + (n + 1 : Nat)) (by omega) (by omega) 1 (to + n) (by omega) (by simp [mvC]; omega)
    omega
/-- At most as many as columns lie between. -/
theorem IsD.near (h : IsD st to D) (t0 : 0 ≤ to) (t1 : to ≤ 30) {c : Int} (c0 : 0 ≤ c) (c1 : c ≤ 30) : D c ≤ c - to ∨ D c ≤ to - c := by
  rcases Int.le_total to c with hc | hc
  · left
    have := h.left t0 t1 (c - to).toNat (by omega)
    rw [show to + ((c - to).toNat : Int) = c by omega] at this
    omega
  · right
    have := h.right t0 t1 (to - c).toNat (by omega)
    rw [show to - ((to - c).toNat : Int) = c by omega] at this
    omega
theorem IsD.le30 (h : IsD st to D) (t0 : 0 ≤ to) (t1 : to ≤ 30) {c : Int} (c0 : 0 ≤ c) (c1 : c ≤ 30) : D c ≤ 30 := by
  rcases h.near t0 t1 c0 c1 with h | h <;> omega
/-- A way along which another measure falls by at most one a move. -/
theorem IsD.follow (h : IsD st to D) (ho : StopsOk st) {E : Int → Int} (hE : ∀ c, 0 ≤ c → c ≤ 30 → ∀ j x, j < 3 → mvC st c j = some x → E c ≤ E x + 1) :
    ∀ n : Nat, ∀ c, 0 ≤ c → c ≤ 30 → D c = n → E c ≤ n + E to := by
  intro n
  induction n with
  | zero =>
    intro c c0 c1 hn
    by_cases e : c = to
    · subst e; simp
    · obtain ⟨j, x, hj, hm, hd⟩ := h.way c c0 c1 e
      have hx := mv_in ho c0 c1 hm
      have := h.pos x hx.1 hx.2
      omega
  | succ n ih =>
    intro c c0 c1 hn
    by_cases e : c = to
    · rw [e] at hn; have := h.here; omega
    · obtain ⟨j, x, hj, hm, hd⟩ := h.way c c0 c1 e
      have hx := mv_in ho c0 c1 hm
      have h1 := ih x hx.1 hx.2 (by omega)
      have h2 := hE c c0 c1 j x hj hm
      omega
/-- A way over another column is never shorter. -/
theorem IsD.tri {over : Int} {E : Int → Int} (h : IsD st over D) (hE : IsD st to E) (ho : StopsOk st) {c : Int} (c0 : 0 ≤ c) (c1 : c ≤ 30) : E c ≤ D c + E over := by
  have hp := h.pos c c0 c1
  have := h.follow ho hE.least (D c).toNat c c0 c1 (by omega)
  omega
/-- Another stop never makes a way longer. -/
theorem IsD.wider {y : Int} {E : Int → Int} (h : IsD st to D) (hE : IsD (st ++ [y]) to E) (ho : StopsOk st) {c : Int} (c0 : 0 ≤ c) (c1 : c ≤ 30) : E c ≤ D c := by
  have hp := h.pos c c0 c1
  have := h.follow ho (fun c c0 c1 j x hj hm => hE.least c c0 c1 j x hj (mv_more y hm)) (D c).toNat c c0 c1 (by omega)
  have := hE.here
  omega
end

/-- What the rounds have told so far: behind round r, D is the number of moves where it is not -1. -/
structure Bfs (st : List Int) (to : Int) (r : Int) (D : Int → Int) : Prop where
  here : D to = 0
  low : ∀ c, 0 ≤ c → c ≤ 30 → D c = -1 ∨ (0 ≤ D c ∧ D c ≤ r)
  way : ∀ c, 0 ≤ c → c ≤ 30 → c ≠ to → D c ≠ -1 → ∃ j x, j < 3 ∧ mvC st c j = some x ∧ D x ≠ -1 ∧ D c = D x + 1
  least : ∀ c, 0 ≤ c → c ≤ 30 → ∀ j x, j < 3 → mvC st c j = some x → D x ≠ -1 → D x < r → D c ≠ -1 ∧ D c ≤ D x + 1
/-- Inside round r, ahead of column q: D stands for the columns below q, D0 is what stood there when the round began. -/
structure BfsIn (st : List Int) (to : Int) (r : Int) (D0 D : Int → Int) (q : Int) : Prop where
  old : ∀ c, 0 ≤ c → c ≤ 30 → D0 c ≠ -1 → D c = D0 c
  rest : ∀ c, q ≤ c → c ≤ 30 → D c = D0 c
  new : ∀ c, 0 ≤ c → c < q → c ≤ 30 → D0 c = -1 → (D c = r + 1 ∧ ∃ j x, j < 3 ∧ mvC st c j = some x ∧ D0 x = r) ∨ (D c = -1 ∧ ∀ j x, j < 3 → mvC st c j = some x → D0 x ≠ r)
section
variable {st : List Int} {to r : Int} {D D0 : Int → Int}
theorem BfsIn.start (_h : Bfs st to r D0) : BfsIn st to r D0 D0 0 := ⟨fun _ _ _ _ => rfl, fun _ _ _ => rfl, fun c h0 h1 => by omega⟩
/-- Where D says r, D0 says r. -/
theorem BfsIn.eq_r {q : Int} (_hb : Bfs st to r D0) (h : BfsIn st to r D0 D q) (hr : 0 ≤ r) {c : Int} (c0 : 0 ≤ c) (c1 : c ≤ 30) : D c = r ↔ D0 c = r := by
  constructor
  · intro e
    by_cases h0 : D0 c = -1
    · rcases Int.lt_or_le c q with hq | hq
      · rcases h.new c c0 hq c1 h0 with ⟨h1, _⟩ | ⟨h1, _⟩ <;> omega
      · have := h.rest c hq c1; omega
    · have := h.old c c0 c1 h0; omega
  · intro e
    have := h.old c c0 c1 (by omega)
    omega
theorem BfsIn.skip {q : Int} (h : BfsIn st to r D0 D q) (q0 : 0 ≤ q) (q1 : q ≤ 30) (hd : D q ≠ -1) : BfsIn st to r D0 D (q + 1) := by
  refine ⟨h.old, fun c hc => h.rest c (by omega), fun c c0 hc c1 e => ?_⟩
  rcases Int.lt_or_le c q with hq | hq
  · exact h.new c c0 hq c1 e
  · obtain rfl : c = q := by omega
    have := h.rest c (Int.le_refl _) c1
    omega
theorem BfsIn.miss {q : Int} (h : BfsIn st to r D0 D q) (q0 : 0 ≤ q) (q1 : q ≤ 30) (hd : D q = -1) (hn : ∀ j x, j < 3 → mvC st q j = some x → D0 x ≠ r) : BfsIn st to r D0 D (q + 1) := by
  refine ⟨h.old, fun c hc => h.rest c (by omega), fun c c0 hc c1 e => ?_⟩
  rcases Int.lt_or_le c q with hq | hq
  · exact h.new c c0 hq c1 e
  · obtain rfl : c = q := by omega
    exact .inr ⟨hd, hn⟩
theorem BfsIn.hit {q : Int} (h : BfsIn st to r D0 D q) (q0 : 0 ≤ q) (q1 : q ≤ 30) (hd : D q = -1) {j : Nat} {x : Int} (hj : j < 3) (hm : mvC st q j = some x) (hx : D0 x = r) : BfsIn st to r D0 (fun c => if c = q then r + 1 else D c) (q + 1) := by
  have e0 := h.rest q (Int.le_refl _) q1
  refine ⟨fun c c0 c1 e => ?_, fun c hc c1 => ?_, fun c c0 hc c1 e => ?_⟩
  · show (if c = q then r + 1 else D c) = D0 c
    rw [if_neg (by rintro rfl; omega)]
    exact h.old c c0 c1 e
  · show (if c = q then r + 1 else D c) = D0 c
    rw [if_neg (by omega)]
    exact h.rest c (by omega) c1
  · show ((if c = q then r + 1 else D c) = r + 1 ∧ _) ∨ ((if c = q then r + 1 else D c) = -1 ∧ _)
    rcases Int.lt_or_le c q with hq | hq
    · rw [if_neg (by omega)]; exact h.new c c0 hq c1 e
    · obtain rfl : c = q := by omega
      rw [if_pos rfl]
      exact .inl ⟨rfl, j, x, hj, hm, hx⟩
theorem mv_ne {c x : Int} {j : Nat} (h : mvC st c j = some x) : x ≠ c := by
  match j, h with
  | 0, h => have := (nxt_mem h).2; omega
  | 1, h => simp [mvC] at h; omega
  | 2, h => simp [mvC] at h; omega
  | _ + 3, h => simp [mvC] at h
/-- What is near has been told. -/
theorem Bfs.reach (hb : Bfs st to r D) (t0 : 0 ≤ to) (t1 : to ≤ 30) : (∀ n : Nat, (n : Int) ≤ r → to - (n : Int) ≥ 0 → D (to - n) ≠ -1 ∧ D (to - n) ≤ n) ∧ (∀ n : Nat, (n : Int) ≤ r → to + (n : Int) ≤ 30 → D (to + n) ≠ -1 ∧ D (to + n) ≤ n) := by
  constructor
  · intro n
    induction n with
    | zero => intro _ _; simp [hb.here]
    | succ n ih =>
      intro h1 h2
      obtain ⟨a, b⟩ := ih (by omega) (by omega)
      have := hb.least (to - (n + 1 : Nat)) (by omega) (by omega) 2 (to - n) (by omega) (by simp [mvC]; omega) a (by omega)
      exact ⟨this.1, by omega⟩
  · intro n
    induction n with
    | zero => intro _ _; simp [hb.here]
    | succ n ih =>
      intro h1 h2
      obtain ⟨a, b⟩ := ih (by omega) (by omega)
      have := hb.least (to + (n + 1 : Nat)) (by omega) (by omega) 1 (to + n) (by omega) (by simp [mvC]; omega) a (by omega)
      exact ⟨this.1, by omega⟩
theorem Bfs.few (hb : Bfs st to r D) (t0 : 0 ≤ to) (t1 : to ≤ 30) {c : Int} (c0 : 0 ≤ c) (c1 : c ≤ 30) (hc : D c = -1) : r ≤ 29 := by
  rcases Int.lt_or_le 29 r with h | h
  · exfalso
    rcases Int.le_total to c with h2 | h2
    · have := ((hb.reach t0 t1).2 (c - to).toNat (by omega) (by omega)).1
      rw [show to + ((c - to).toNat : Int) = c by omega] at this
      exact this hc
    · have := ((hb.reach t0 t1).1 (to - c).toNat (by omega) (by omega)).1
      rw [show to - ((to - c).toNat : Int) = c by omega] at this
      exact this hc
  · exact h
/-- The beginning. -/
theorem Bfs.start (st : List Int) (to : Int) : Bfs st to 0 (fun c => if c = to then 0 else -1) := by
  refine ⟨by simp, fun c _ _ => ?_, fun c _ _ hc hd => ?_, fun c _ _ j x _ _ hx hlt => ?_⟩
  · show (if c = to then (0 : Int) else -1) = -1 ∨ (0 ≤ (if c = to then (0 : Int) else -1) ∧ (if c = to then (0 : Int) else -1) ≤ 0)
    split <;> omega
  · exact absurd (if_neg hc) hd
  · have h2 : (if x = to then (0 : Int) else -1) ≠ -1 := hx
    have h3 : (if x = to then (0 : Int) else -1) < 0 := hlt
    split at h2 <;> omega
/-- Behind the round. -/
theorem BfsIn.next (hb : Bfs st to r D0) (h : BfsIn st to r D0 D 31) (ho : StopsOk st) (hr : 0 ≤ r) (t0 : 0 ≤ to) (t1 : to ≤ 30) : Bfs st to (r + 1) D := by
  have key : ∀ c, 0 ≤ c → c ≤ 30 → D0 c ≠ -1 → D c = D0 c := h.old
  refine ⟨by rw [key to t0 t1 (by rw [hb.here]; omega), hb.here], fun c c0 c1 => ?_, fun c c0 c1 hc hd => ?_, fun c c0 c1 j x hj hm hx hlt => ?_⟩
  · by_cases e : D0 c = -1
    · rcases h.new c c0 (by omega) c1 e with ⟨h1, _⟩ | ⟨h1, _⟩ <;> omega
    · rw [key c c0 c1 e]
      rcases hb.low c c0 c1 with h1 | h1 <;> omega
  · by_cases e : D0 c = -1
    · rcases h.new c c0 (by omega) c1 e with ⟨h1, j, x, hj, hm, hx⟩ | ⟨h1, _⟩
      · have hxi := mv_in ho c0 c1 hm
        have := key x hxi.1 hxi.2 (by omega)
        exact ⟨j, x, hj, hm, by omega, by omega⟩
      · omega
    · obtain ⟨j, x, hj, hm, hx, hd⟩ := hb.way c c0 c1 hc e
      have hxi := mv_in ho c0 c1 hm
      have h1 := key x hxi.1 hxi.2 hx
      have h2 := key c c0 c1 e
      exact ⟨j, x, hj, hm, by omega, by omega⟩
  · have hxi := mv_in ho c0 c1 hm
    by_cases ex : D0 x = -1
    · rcases h.new x hxi.1 (by omega) hxi.2 ex with ⟨h1, _⟩ | ⟨h1, _⟩ <;> omega
    · have h1 := key x hxi.1 hxi.2 ex
      by_cases e : D0 c = -1
      · by_cases er : D0 x = r
        · rcases h.new c c0 (by omega) c1 e with ⟨h2, _⟩ | ⟨_, h2⟩
          · omega
          · exact absurd er (h2 j x hj hm)
        · have := hb.least c c0 c1 j x hj hm ex (by rcases hb.low x hxi.1 hxi.2 with h3 | h3 <;> omega)
          omega
      · have h2 := key c c0 c1 e
        by_cases er : D0 x = r
        · rcases hb.low c c0 c1 with h3 | h3 <;> omega
        · have := hb.least c c0 c1 j x hj hm ex (by rcases hb.low x hxi.1 hxi.2 with h3 | h3 <;> omega)
          omega
/-- A round that tells nothing new is the last one. -/
theorem BfsIn.last (hb : Bfs st to r D0) (h : BfsIn st to r D0 D 31) (_hr : 0 ≤ r) (t0 : 0 ≤ to) (t1 : to ≤ 30) (ho : StopsOk st) (hn : ∀ c, 0 ≤ c → c ≤ 30 → D0 c = -1 → D c = -1) : IsD st to D := by
  have same : ∀ c, 0 ≤ c → c ≤ 30 → D c = D0 c := fun c c0 c1 => by
    by_cases e : D0 c = -1
    · rw [hn c c0 c1 e, e]
    · exact h.old c c0 c1 e
  have clo : ∀ c, 0 ≤ c → c ≤ 30 → ∀ j x, j < 3 → mvC st c j = some x → D0 x ≠ -1 → D0 c ≠ -1 ∧ D0 c ≤ D0 x + 1 := fun c c0 c1 j x hj hm hx => by
    have hxi := mv_in ho c0 c1 hm
    by_cases er : D0 x = r
    · by_cases e : D0 c = -1
      · rcases h.new c c0 (by omega) c1 e with ⟨h2, _⟩ | ⟨_, h2⟩
        · have := hn c c0 c1 e; omega
        · exact absurd er (h2 j x hj hm)
      · refine ⟨e, ?_⟩
        rcases hb.low c c0 c1 with h3 | h3 <;> omega
    · exact hb.least c c0 c1 j x hj hm hx (by rcases hb.low x hxi.1 hxi.2 with h3 | h3 <;> omega)
  have rt : ∀ n : Nat, to - (n : Int) ≥ 0 → D0 (to - n) ≠ -1 := by
    intro n
    induction n with
    | zero => intro _; simp [hb.here]
    | succ n ih =>
      intro hnn
      exact (clo (to - (n + 1 : Nat)) (by omega) (by omega) 2 (to - n) (by omega) (by simp [mvC]; omega) (ih (by omega))).1
  have lf : ∀ n : Nat, to + (n : Int) ≤ 30 → D0 (to + n) ≠ -1 := by
    intro n
    induction n with
    | zero => intro _; simp [hb.here]
    | succ n ih =>
      intro hnn
      exact (clo (to + (n + 1 : Nat)) (by omega) (by omega) 1 (to + n) (by omega) (by simp [mvC]; omega) (ih (by omega))).1
  have all : ∀ c, 0 ≤ c → c ≤ 30 → D0 c ≠ -1 := fun c c0 c1 => by
    rcases Int.le_total to c with hc | hc
    · have := lf (c - to).toNat (by omega)
      rwa [show to + ((c - to).toNat : Int) = c by omega] at this
    · have := rt (to - c).toNat (by omega)
      rwa [show to - ((to - c).toNat : Int) = c by omega] at this
  refine ⟨by rw [same to t0 t1, hb.here], fun c c0 c1 => ?_, fun c c0 c1 hc => ?_, fun c c0 c1 j x hj hm => ?_⟩
  · rw [same c c0 c1]
    rcases hb.low c c0 c1 with h3 | h3
    · exact absurd h3 (all c c0 c1)
    · exact h3.1
  · obtain ⟨j, x, hj, hm, hx, hd⟩ := hb.way c c0 c1 hc (all c c0 c1)
    have hxi := mv_in ho c0 c1 hm
    exact ⟨j, x, hj, hm, by rw [same c c0 c1, same x hxi.1 hxi.2]; exact hd⟩
  · have hxi := mv_in ho c0 c1 hm
    rw [same c c0 c1, same x hxi.1 hxi.2]
    exact (clo c c0 c1 j x hj hm (all x hxi.1 hxi.2)).2
end
end Go.Proofs.Ytgigdipbfcffiaa
