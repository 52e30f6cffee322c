/- A queue of numbers: a slice of the call's own that is cut at its front and appended to. Own lemmas over the library's appends. -/
import Derived.Test.YtajcdaclbammaaaAp
import Derived.Deep.Upon
namespace Go.Proofs.Ytajcdaclbammaaa
open Go.RowKit Go.BigFrame

theorem tape_setCells (g : Nat) (vs : List Value) : ∀ (o : Nat) (w : World), (w.setCells g o vs).tape = w.tape := by
  induction vs with
  | nil => intro o w; rfl
  | cons a vs ih => intro o w; simp only [World.setCells]; rw [ih]; rfl
theorem size_setCells (g : Nat) (vs : List Value) : ∀ (o : Nat) (w : World), (w.setCells g o vs).heap.size = w.heap.size := by
  induction vs with
  | nil => intro o w; rfl
  | cons a vs ih => intro o w; simp only [World.setCells]; rw [ih, World.size_setCell]
/-- A slice of numbers in a block of the call's own. -/
def Qu (w : World) (base : Nat) (v : Value) (Q : List Int) : Prop :=
  ∃ ao b off cap, v = .slice ao Q.length cap ∧ base ≤ b ∧ cap ≤ maxLen ∧ Came w 1 ao b off Q.length cap (Q.map (Value.int .i64))
section
variable {w w' : World} {base : Nat} {v : Value} {Q : List Int}
theorem Qu.later (h : Qu w base v Q) (hb : Below w.heap.size w w') : Qu w' base v Q := by
  obtain ⟨ao, b, off, cap, hv, h1, h2, hc⟩ := h
  have key : ∀ o, (w.cell? ⟨b, o, none⟩).isSome = true → w'.cell? ⟨b, o, none⟩ = w.cell? ⟨b, o, none⟩ := fun o ho => hb.cell (p := ⟨b, o, none⟩) (World.block_lt_of_cell? _ _ (Option.isSome_iff_exists.1 ho).choose_spec)
  refine ⟨ao, b, off, cap, hv, h1, h2, ⟨hc.le, hc.addr, fun h => Nat.lt_of_lt_of_le (hc.lt h) hb.size, hc.oldsLen, fun j u hu => ?_, fun j hj => ?_⟩⟩
  · have := hc.olds j u hu
    rw [key _ (by rw [this]; rfl), this]
  · obtain ⟨a1, a2⟩ := hc.spare j hj
    have hblt : b < w.heap.size := World.block_lt_of_cell? _ _ (Option.isSome_iff_exists.1 a1).choose_spec
    exact ⟨by rw [key _ a1]; exact a1, (hb.frozen (p := ⟨b, off + Q.length * 1 + j, none⟩) hblt).trans a2⟩
theorem Qu.of_own {e : TypeId} (h : w.ownsRow base e 1 v Q.length (Q.map (Value.int .i64))) : Qu w base v Q := by
  rcases h.2 with ⟨hv, h0⟩ | ⟨g, cap, cur, hv, hg, hr, hnc, hcm, hcs, htk⟩
  · obtain rfl : Q = [] := List.eq_nil_of_length_eq_zero h0
    exact ⟨none, base, 0, 0, hv, Nat.le_refl _, by simp [maxLen], ⟨Nat.le_refl _, fun h => absurd h (by omega), fun h => absurd h (by omega), rfl, fun j u hu => by simp at hu, fun j hj => by simp at hj⟩⟩
  · have hlt : g < w.heap.size := (Array.getElem?_eq_some_iff.1 hr).1
    refine ⟨_, g, 0, cap, hv, hg, hcm, ⟨hnc, fun _ => rfl, fun _ => hlt, by simp, fun j u hu => ?_, fun j hj => ?_⟩⟩
    · have hj : j < Q.length := by have := (List.getElem?_eq_some_iff.1 hu).1; simpa using this
      rw [← htk, List.getElem?_take, if_pos (by omega)] at hu
      simp only [World.cell?, hr, Nat.zero_add]
      simpa using hu
    · simp only [World.cell?, World.frozen?, hr]
      have h9 : Q.length + j < cur.size := by rw [hcs]; omega
      simp [h9]
theorem Qu.shape (h : Qu w base v Q) : ∃ ao cap, v = .slice ao Q.length cap := by
  obtain ⟨ao, b, off, cap, hv, _⟩ := h
  exact ⟨ao, cap, hv⟩
theorem Qu.head {x : Int} {T : List Int} {ao : Option Addr} {n cap : Nat} (h : Qu w base (.slice ao n cap) (x :: T)) : n = T.length + 1 ∧ T.length + 1 ≤ cap ∧ ∃ b off, ao = some ⟨b, off, none⟩ ∧ base ≤ b ∧ b < w.heap.size ∧ w.cell? ⟨b, off, none⟩ = some (.int .i64 x) := by
  obtain ⟨ao', b, off, cap', hv, h1, h2, hc⟩ := h
  simp only [Value.slice.injEq] at hv
  obtain ⟨rfl, hn, rfl⟩ := hv
  have hle := hc.le
  simp only [List.length_cons] at hn hle
  have hcap : 0 < cap := by omega
  exact ⟨hn, hle, b, off, hc.addr hcap, h1, hc.lt hcap, hc.olds 0 _ rfl⟩
theorem Qu.cut {x : Int} {T : List Int} {ao : Option Addr} {n cap : Nat} (h : Qu w base (.slice ao n cap) (x :: T)) : Qu w base (.slice (cutA ao cap 1) (n - 1) (cap - 1)) T := by
  obtain ⟨hn, hle, _⟩ := h.head
  obtain ⟨ao', b, off, cap', hv, h1, h2, hc⟩ := h
  simp only [Value.slice.injEq] at hv
  obtain ⟨rfl, _, rfl⟩ := hv
  have hcap : 0 < cap := by omega
  subst hn
  refine ⟨cutA ao cap 1, b, off + 1, cap - 1, by simp, h1, by omega, ⟨by omega, fun h0 => ?_, fun _ => hc.lt hcap, by simp, fun j u hu => ?_, fun j hj => ?_⟩⟩
  · rw [cutA, if_neg (by omega), hc.addr hcap]
    simp [Addr.add_lit]
  · have := hc.olds (j + 1) u (by simpa using hu)
    rwa [show off + (j + 1) = off + 1 + j by omega] at this
  · have := hc.spare j (by simp only [List.length_cons]; omega)
    simp only [List.length_cons] at this
    rwa [show off + (T.length + 1) * 1 + j = off + 1 + T.length * 1 + j by omega] at this
end
theorem qu_app {P : Program} (t ty e : TypeId) (i : TypeInfo) (z : Value) (ht : P.underlying t = some (.slice e)) (hi : P.info? e = some i) (hz : i.zero = some z) (hs1 : i.size = 1) (hb8 : i.bytes = 8) (hzs : z.cells.size = 1)
    {W : World} {base : Nat} {v : Value} {Q : List Int} (hq : Qu W base v Q) {A : Option Addr} {m c : Nat} {news : List Int} (hr : Zs W A m news) (h63 : Q.length + m ≤ 1048576) (hbase : base ≤ W.heap.size) :
    ∃ v' w', (Builtin.append_ #[t, t] ty #[v, .slice A m c]).run P W = .ok v' w' ∧ Qu w' base v' (Q ++ news) ∧ Below base W w' := by
  have hm : news.length = m := hr.1
  have hsrc : Src P i.size t (.slice A m c) m (news.map (Value.int .i64)) W := by
    rw [hs1]
    have hrd := zs_rd hr
    rcases A with _ | a
    · have h0 : m = 0 := by
        rcases hrd.2 with h0 | ⟨b, o, h0, _⟩
        · exact h0
        · cases h0
      subst h0
      obtain rfl : news = [] := List.eq_nil_of_length_eq_zero hm
      exact Src.ofNil W ht c
    · refine Src.ofSlice W ht a m c _ (by simp [hm]) (fun j u hu => ?_) ints_one
      rcases hrd.2 with h0 | ⟨b, o, h0, _, hc⟩
      · subst h0
        obtain rfl : news = [] := List.eq_nil_of_length_eq_zero hm
        simp at hu
      · injection h0 with h0
        subst h0
        rw [Addr.add_lit]
        exact hc j u hu
  obtain ⟨ao, b, off, cap, rfl, hb, hcm, hc⟩ := hq
  have hlenA : (Q ++ news).length = Q.length + m := by rw [List.length_append, hm]
  by_cases hfit : Q.length + m ≤ cap
  · rcases Nat.eq_zero_or_pos cap with h0 | hcap
    · subst h0
      obtain rfl : m = 0 := by omega
      obtain rfl : news = [] := List.eq_nil_of_length_eq_zero hm
      exact ⟨_, _, run_append_nothing (P := P) W t t ty e i ht hi ao Q.length 0 hc.le _ hsrc, by rw [List.append_nil]; exact ⟨ao, b, off, 0, rfl, hb, hcm, hc⟩, Below.refl _ _⟩
    · have hao := hc.addr hcap
      subst hao
      have hl : ∀ j, j < (news.map (Value.int .i64)).length → (W.cell? ⟨b, off + Q.length * i.size + j, none⟩).isSome = true ∧ W.frozen? ⟨b, off + Q.length * i.size + j, none⟩ = false := fun j hj => by
        rw [hs1]; exact hc.spare j (by simp at hj; omega)
      have hrun := run_append_room_src (P := P) W t t ty e i ht hi b off Q.length cap _ m _ hsrc hfit (fun j hj => (hl j hj).1) (fun j hj => (hl j hj).2)
      rw [hs1] at hrun hl
      have hblt := hc.lt hcap
      have hsz := size_setCells b (news.map (Value.int .i64)) (off + Q.length * 1) W
      refine ⟨_, _, hrun, ⟨_, b, off, cap, by rw [hlenA], hb, hcm, ⟨by omega, fun _ => rfl, fun _ => by rw [hsz]; exact hblt, by simp, fun j u hu => ?_, fun j hj => ?_⟩⟩, ?_⟩
      · rw [List.map_append] at hu
        by_cases hj : j < Q.length
        · rw [List.getElem?_append_left (by simpa using hj)] at hu
          rw [World.cell?_setCells_out b _ _ _ _ (fun _ _ => Or.inl (by show off + j < off + Q.length * 1; omega))]
          exact hc.olds j u hu
        · rw [List.getElem?_append_right (by simpa using hj)] at hu
          simp only [List.length_map] at hu
          have hjl := (List.getElem?_eq_some_iff.1 hu).1
          have := World.cell?_setCells_in b (news.map (Value.int .i64)) (off + Q.length * 1) W (fun j hj => (hl j hj).1) (j - Q.length) hjl
          rw [show off + Q.length * 1 + (j - Q.length) = off + j by omega] at this
          rw [this]
          rw [List.getElem?_eq_getElem hjl] at hu
          exact hu
      · rw [hlenA] at hj ⊢
        have h1 := hc.spare (m + j) (by omega)
        rw [show off + Q.length * 1 + (m + j) = off + (Q.length + m) * 1 + j by omega] at h1
        refine ⟨?_, (World.frozen?_setCells b _ _ _ _).trans h1.2⟩
        rw [World.cell?_setCells_out b _ _ _ _ (fun _ _ => Or.inr (by show off + Q.length * 1 + (news.map (Value.int .i64)).length ≤ off + (Q.length + m) * 1 + j; simp [hm]; omega))]
        exact h1.1
      · exact ⟨World.os_setCells _ _ _ _, tape_setCells _ _ _ _, World.output_setCells _ _ _ _, by rw [hsz]; exact Nat.le_refl _, fun k hk => World.heap_setCells_other W b _ _ (by omega) (by omega)⟩
  · have hgt : cap < Q.length + m := by omega
    have hold : (Builtin.firstCells i.size Q.length (.slice ao Q.length cap)).run P W.drew = .ok (Q.map (Value.int .i64)).toArray W.drew := by
      rw [hs1]
      rcases Nat.eq_zero_or_pos cap with h0 | hcap
      · subst h0
        have hQ : Q = [] := List.eq_nil_of_length_eq_zero (by have := hc.le; omega)
        subst hQ
        cases ao with
        | none => exact run_firstCells_none W.drew 1 0 0 0
        | some a' => exact run_firstCells_some W.drew 1 0 a' 0 0 [] (by simp) (by intro _ _ h'; simp at h')
      · rw [hc.addr hcap]
        refine run_firstCells_some W.drew 1 Q.length ⟨b, off, none⟩ Q.length cap _ (by simp) (fun j u hu => ?_)
        rw [Addr.add_lit]
        exact hc.olds j u hu
    have hfits := growslice_fits hgt (show (Q.length + m) * i.bytes ≤ _ by rw [hb8]; omega)
    have hrun := run_append_grow_src (P := P) W t t ty e i z ht hi hz ao Q.length cap _ hold _ m _ hsrc hgt (by omega) hfits
    have hge := grownCap_ge W (Q.length + m) cap e
    have hcm2 := grownCap_le_maxLen W (Q.length + m) cap e (by simp only [maxLen]; omega)
    generalize grownCap W (Q.length + m) cap e = C at hrun hge hcm2
    have hL : ((Q.map (Value.int .i64)) ++ (news.map (Value.int .i64))).length = Q.length + m := by simp [hm]
    have hsz : (((Q.map (Value.int .i64)) ++ (news.map (Value.int .i64))).toArray ++ Builtin.zeroCells z.cells (C - (Q.length + m))).size = C := by
      rw [Array.size_append, List.size_toArray, hL, size_zeroCells, hzs]; omega
    refine ⟨_, _, hrun, ⟨_, W.heap.size, 0, C, by rw [hlenA], hbase, hcm2, ⟨by omega, fun _ => rfl, fun _ => by simp, by simp, fun j u hu => ?_, fun j hj => ?_⟩⟩, ?_⟩
    · rw [List.map_append] at hu
      have hj := (List.getElem?_eq_some_iff.1 hu).1
      have e1 : (W.drew.alloc (.cells (((Q.map (Value.int .i64)) ++ (news.map (Value.int .i64))).toArray ++ Builtin.zeroCells z.cells (C - (Q.length + m))) e)).cell? ⟨W.heap.size, 0 + j, none⟩ = _ := World.cell?_alloc_new W.drew _ _ (0 + j)
      rw [e1, Array.getElem?_append_left (by simp only [List.size_toArray]; omega), List.getElem?_toArray, Nat.zero_add]
      exact hu
    · have e1 : (W.drew.alloc (.cells (((Q.map (Value.int .i64)) ++ (news.map (Value.int .i64))).toArray ++ Builtin.zeroCells z.cells (C - (Q.length + m))) e)).cell? ⟨W.heap.size, 0 + (Q ++ news).length * 1 + j, none⟩ = _ := World.cell?_alloc_new W.drew _ _ _
      rw [e1]
      refine ⟨?_, World.frozen?_alloc_new W.drew _ _ _⟩
      rw [hlenA] at hj ⊢
      rw [Array.getElem?_eq_getElem (by rw [hsz]; omega)]
      rfl
    · exact ⟨rfl, rfl, rfl, by simp, fun k hk => Below.heap_alloc W.drew _ k (Nat.lt_of_lt_of_le hk hbase)⟩
theorem quApp {P : Program} {ops : Array Oper} {rest : List Oper} {o : Oper} {a : Act} {K : Exit → Act → World → Prop} (hgd : o.guard = none) (s x : Operand) (t : TypeId)
    (ho : o.op = .call { callee := .builtin .append, args := #[s, x], argTypes := #[t, t] })
    (base : Nat) (e : TypeId) (z : Value) (ht : P.underlying t = some (.slice e)) (hinfo : (P.info? e).map (fun i => (i.zero, i.size, i.bytes)) = some (some z, 1, 8)) (hz1 : z.cells.size = 1)
    (W : World) (v : Value) (Q : List Int) (hs : a.eval s = v) (hq : Qu W base v Q) (A : Option Addr) (m c : Nat) (news : List Int) (hx : a.eval x = .slice A m c) (hr : Zs W A m news)
    (h63 : Q.length + m ≤ 1048576) (hbase : base ≤ W.heap.size)
    (h : ∀ v' w', Qu w' base v' (Q ++ news) → Below base W w' → wpList P ops K rest (a.put o.dst v') w') : wpList P ops K (o :: rest) a W := by
  obtain ⟨i, hi, hzz⟩ := Option.map_eq_some_iff.1 hinfo
  simp only [Prod.mk.injEq] at hzz
  obtain ⟨hz, hs1, hb1⟩ := hzz
  refine wpList_plain hgd fun _ hK => ?_
  obtain ⟨v', w', hrun, h1, h2⟩ := qu_app (P := P) t o.type e i z ht hi hz hs1 hb1 hz1 hq (c := c) hr h63 hbase
  unfold Oper.wp execOp
  simp only [ho, resolve, invoke, builtin, Sem.run_bind, Sem.run_pure, Result.andThen_ok, List.map_toArray, List.map_cons, List.map_nil, hs, hx, hrun]
  exact hK _ _ (h v' w' h1 h2)
end Go.Proofs.Ytajcdaclbammaaa
