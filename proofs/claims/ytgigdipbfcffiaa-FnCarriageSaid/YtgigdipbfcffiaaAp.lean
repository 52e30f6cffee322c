/- 'append(out, xs...)' onto a row of the call's own, whatever the length of xs; cuts of slices that are read; a cut of an own row. -/
import Derived.Test.YtgigdipbfcffiaaI64
import Derived.Maps.AppendAt
import Derived.Deep.AppendLies
import Derived.RegionTactic
namespace Go.Proofs.Ytgigdipbfcffiaa
open Go.RowKit Go.BigFrame

section
variable {P : Program} {ops : Array Oper} {o : Oper} {a : Act} {Q : Exit → Act → World → Prop}
theorem run_nil_src (w : World) (base : Nat) (t ty e : TypeId) (i : TypeInfo) (size : Nat) (ht : P.underlying t = some (.slice e)) (hi : P.info? e = some i)
    (v : Value) (n : Nat) (xs : List Value) (hown : w.ownsRow base e size v n xs) (c : Nat) : (Builtin.append_ #[t, t] ty #[v, .slice none 0 c]).run P w = .ok v w := by
  obtain ⟨A, cp, rfl⟩ := own_slice hown
  have hnc : n ≤ cp := by
    rcases hown.2 with ⟨h, h'⟩ | ⟨g, cap, cur, h, _, _, hnc, _⟩
    · simp only [Value.slice.injEq] at h; omega
    · simp only [Value.slice.injEq] at h; omega
  have hA : n = 0 ∨ A.isSome = true := by
    rcases hown.2 with ⟨h, h'⟩ | ⟨g, cap, cur, h, _⟩
    · simp only [Value.slice.injEq] at h; left; omega
    · simp only [Value.slice.injEq] at h; right; rw [h.1]; rfl
  cases A with
  | none => simp [Builtin.append_, run_underlying ht, sizeOf, typeInfo, hi, Builtin.lenOf, Builtin.firstCells, hnc]
  | some g => simp [Builtin.append_, run_underlying ht, sizeOf, typeInfo, hi, Builtin.lenOf, Builtin.firstCells, hnc, storeCells]
/-- What the append leaves. -/
theorem apAny (_hgd : o.guard = none) (s x : Operand) (t : TypeId)
    (ho : o.op = .call { callee := .builtin .append, args := #[s, x], argTypes := #[t, t] })
    (base : Nat) (e : TypeId) (z : Value) (bytes : Nat) (ht : P.underlying t = some (.slice e)) (hinfo : (P.info? e).map (fun i => (i.zero, i.size, i.bytes)) = some (some z, 1, bytes)) (hz1 : z.cells.size = 1)
    (W : World) (v : Value) (n : Nat) (xs : List Value) (hs : a.eval s = v) (hown : W.ownsRow base e 1 v n xs)
    (B : Nat) (A : Option Addr) (m c : Nat) (news : List Value) (hx : a.eval x = .slice A m c) (hr : Rd W B 1 A m news) (hu : ∀ u ∈ news, u.oneCell' = true)
    (h63 : n + m ≤ 1099511627776) (hbytes : bytes ≤ 64) (hbase : base ≤ W.heap.size) {K : Act → World → Prop}
    (h : ∀ v' w', w'.ownsRow base e 1 v' (n + m) (xs ++ news) → Below base W w' → W.grownBy w' v.ownBlock → (v'.ownBlock = v.ownBlock ∨ v'.ownBlock = some W.heap.size) → K (a.put o.dst v') w') : Oper.wp P o a W K Q := by
  obtain ⟨i, hi, hzz⟩ := Option.map_eq_some_iff.1 hinfo
  simp only [Prod.mk.injEq] at hzz
  obtain ⟨hz, hs1, hb1⟩ := hzz
  have hmul : (n + m) * bytes ≤ (n + m) * 64 := Nat.mul_le_mul_left _ hbytes
  have key : ∃ v' w', (Builtin.append_ #[t, t] o.type #[v, .slice A m c]).run P W = .ok v' w' ∧ w'.ownsRow base e 1 v' (n + m) (xs ++ news) ∧ W.grownBy w' v.ownBlock ∧ (v'.ownBlock = v.ownBlock ∨ v'.ownBlock = some W.heap.size) := by
    rcases A with _ | ad
    · have hm : m = 0 := by
        rcases hr.2 with h0 | ⟨b, o, h0, _⟩
        · exact h0
        · cases h0
      subst hm
      have hn : news = [] := List.eq_nil_of_length_eq_zero (by simpa using hr.1)
      subst hn
      exact ⟨v, W, run_nil_src W base t o.type e i 1 ht hi v n xs hown c, by simpa using hown, ⟨rfl, rfl, rfl, Nat.le_refl _, fun _ _ _ => rfl⟩, .inl rfl⟩
    · have hcells : ∀ j u, news[j]? = some u → W.cell? (ad.add j) = some u := by
        intro j u hu
        rcases hr.2 with h0 | ⟨b, o', h0, _, hc⟩
        · subst h0
          have hn : news = [] := List.eq_nil_of_length_eq_zero (by simpa using hr.1)
          subst hn
          simp at hu
        · injection h0 with h0
          subst h0
          rw [Addr.add_lit]
          exact hc j u hu
      obtain ⟨v', w', hrun, h2, h3, _, h5⟩ := run_append_own_at (P := P) W base t o.type e i z 1 bytes ht hi hz hs1 hb1 hz1 (by omega) v n xs hown ad m c news hr.1 hcells hu (by simp only [maxLen]; omega) (by omega) hbase
      exact ⟨v', w', hrun, h2, h3, h5⟩
  obtain ⟨v', w', hrun, h2, h3, h4⟩ := key
  unfold Oper.wp execOp
  simp only [ho, resolve, invoke, builtin, Sem.run_bind, Sem.run_pure, Result.andThen_ok, List.map_toArray, List.map_cons, List.map_nil, hs, hx, hrun]
  exact h v' w' h2 ((Below.refl _ _).grown h3 hbase fun k hk => (hown.lt k hk).1) h3 h4
theorem apList {rest : List Oper} (hgd : o.guard = none) (s x : Operand) (t : TypeId)
    (ho : o.op = .call { callee := .builtin .append, args := #[s, x], argTypes := #[t, t] })
    (base : Nat) (e : TypeId) (z : Value) (bytes : Nat) (ht : P.underlying t = some (.slice e)) (hinfo : (P.info? e).map (fun i => (i.zero, i.size, i.bytes)) = some (some z, 1, bytes)) (hz1 : z.cells.size = 1)
    (W : World) (v : Value) (n : Nat) (xs : List Value) (hs : a.eval s = v) (hown : W.ownsRow base e 1 v n xs)
    (B : Nat) (A : Option Addr) (m c : Nat) (news : List Value) (hx : a.eval x = .slice A m c) (hr : Rd W B 1 A m news) (hu : ∀ u ∈ news, u.oneCell' = true)
    (h63 : n + m ≤ 1099511627776) (hbytes : bytes ≤ 64) (hbase : base ≤ W.heap.size)
    (h : ∀ v' w', w'.ownsRow base e 1 v' (n + m) (xs ++ news) → Below base W w' → W.grownBy w' v.ownBlock → (v'.ownBlock = v.ownBlock ∨ v'.ownBlock = some W.heap.size) → wpList P ops Q rest (a.put o.dst v') w') : wpList P ops Q (o :: rest) a W :=
  wpList_plain hgd fun _ hK => apAny hgd s x t ho base e z bytes ht hinfo hz1 W v n xs hs hown B A m c news hx hr hu h63 hbytes hbase fun v' w' h1 h2 h3 h4 => hK _ _ (h v' w' h1 h2 h3 h4)
theorem apStep {E : Prop} (hgd : o.guard = none) (s x : Operand) (t : TypeId)
    (ho : o.op = .call { callee := .builtin .append, args := #[s, x], argTypes := #[t, t] })
    (base : Nat) (e : TypeId) (z : Value) (bytes : Nat) (ht : P.underlying t = some (.slice e)) (hinfo : (P.info? e).map (fun i => (i.zero, i.size, i.bytes)) = some (some z, 1, bytes)) (hz1 : z.cells.size = 1)
    (W : World) (v : Value) (n : Nat) (xs : List Value) (hs : a.eval s = v) (hown : W.ownsRow base e 1 v n xs)
    (B : Nat) (A : Option Addr) (m c : Nat) (news : List Value) (hx : a.eval x = .slice A m c) (hr : Rd W B 1 A m news) (hu : ∀ u ∈ news, u.oneCell' = true)
    (h63 : n + m ≤ 1099511627776) (hbytes : bytes ≤ 64) (hbase : base ≤ W.heap.size) {K : Act → World → Prop}
    (h : ∀ v' w', w'.ownsRow base e 1 v' (n + m) (xs ++ news) → Below base W w' → W.grownBy w' v.ownBlock → (v'.ownBlock = v.ownBlock ∨ v'.ownBlock = some W.heap.size) → K (a.put o.dst v') w') :
    if Region.wanted o (yielded ops a.tmps) = true then Oper.wp P o a W K Q else E := by
  have hw : Region.wanted o (yielded ops a.tmps) = true := by simp [Region.wanted, hgd]
  rw [if_pos hw]
  exact apAny hgd s x t ho base e z bytes ht hinfo hz1 W v n xs hs hown B A m c news hx hr hu h63 hbytes hbase h
end

/-- The first k elements of a row that is read. -/
theorem Rd.take {w : World} {B n k : Nat} {A : Option Addr} {xs : List Value} (h : Rd w B 1 A n xs) (hk : k ≤ n) : Rd w B 1 A k (xs.take k) := by
  have h1 := h.1
  refine ⟨by rw [List.length_take]; omega, ?_⟩
  by_cases h0 : k = 0
  · exact .inl h0
  · right
    obtain ⟨b, o, hA, hb, hc⟩ := h.at_ (by omega)
    refine ⟨b, o, hA, hb, fun i v hv => hc i v ?_⟩
    rw [List.getElem?_take] at hv
    split at hv
    · exact hv
    · cases hv
/-- .. and the rest, where the capacity is known to be no less than the length. -/
theorem Rd.drop {w : World} {B n k cap : Nat} {A : Option Addr} {xs : List Value} (h : Rd w B 1 A n xs) (hk : k ≤ n) (hc : n ≤ cap) : Rd w B 1 (if cap = k then A else A.map (·.add (k * 1))) (n - k) (xs.drop k) := by
  have h1 := h.1
  refine ⟨by rw [List.length_drop]; omega, ?_⟩
  by_cases h0 : n - k = 0
  · exact .inl h0
  · right
    obtain ⟨b, o, hA, hb, hcell⟩ := h.at_ (by omega)
    subst hA
    rw [if_neg (by omega)]
    refine ⟨b, o + k, by simp [Addr.add_lit], hb, fun i v hv => ?_⟩
    rw [List.getElem?_drop] at hv
    have := hcell _ _ hv
    rw [← this]
    congr 2
    omega
/-- The address of a slice cut from q on. -/
def cutA (A : Option Addr) (c q : Nat) : Option Addr := if c = q then A else A.map (·.add (q * 1))
theorem Rd.cut {w : World} {B n k cap : Nat} {A : Option Addr} {xs : List Value} (h : Rd w B 1 A n xs) (hk : k ≤ n) (hc : n ≤ cap) : Rd w B 1 (cutA A cap k) (n - k) (xs.drop k) := h.drop hk hc
theorem run_cut {P : Program} {t e : TypeId} (ht : P.underlying t = some (.slice e)) (he : ∀ w, (Go.sizeOf e).run P w = .ok 1 w) (A : Option Addr) {n c q : Nat} (hq : q ≤ n) (w : World) :
    (Instr.slice t (.slice A n c) (some (.int .i64 (q : Int))) none none).run P w = .ok (.slice (cutA A c q) (n - q) (c - q)) w := by
  have hel : P.elem t = e := by simp [Program.elem, ht]
  rw [run_slice_l w t A n c (by rw [hel]; exact ht) .i64 q (by omega) (by omega), hel, he]
  rfl
theorem rd_own {w : World} {base c n : Nat} {A : Option Addr} {e : TypeId} {xs : List Value} (h : w.ownsRow base e 1 (.slice A n c) n xs) : Rd w w.heap.size 1 A n xs := Rd.of_own h
theorem own_cap {w : World} {base c n : Nat} {A : Option Addr} {e : TypeId} {xs : List Value} (h : w.ownsRow base e 1 (.slice A n c) n xs) : n ≤ c := by
  rcases h.2 with ⟨h1, h'⟩ | ⟨g, cap, cur, h1, _, _, hnc, _⟩
  · simp only [Value.slice.injEq] at h1; omega
  · simp only [Value.slice.injEq] at h1; omega
theorem zs_rd {w : World} {A : Option Addr} {n : Nat} {l : List Int} (h : Zs w A n l) : Rd w w.heap.size 1 A n (l.map (Value.int .i64)) := by
  have := h.2.2
  rwa [flat_ic] at this
theorem zs_of_rd {w : World} {A : Option Addr} {n : Nat} {l : List Int} (hl : l.length = n) (h : Rd w w.heap.size 1 A n (l.map (Value.int .i64))) : Zs w A n l := ⟨hl, ic_len, by rw [flat_ic]; exact h⟩
theorem zs_take {w : World} {A : Option Addr} {n k : Nat} {l : List Int} (h : Zs w A n l) (hk : k ≤ n) : Zs w A k (l.take k) :=
  zs_of_rd (by rw [List.length_take, h.1]; omega) (by rw [List.map_take]; exact (zs_rd h).take hk)
theorem zs_ownN {w : World} {base c n : Nat} {A : Option Addr} {e : TypeId} {l : List Int} (h : w.ownsRow base e 1 (.slice A n c) n (l.map (Value.int .i64))) : Zs w A n l := by
  have := h.1
  exact zs_of_rd (by simpa using this) (rd_own h)
theorem ints_one {l : List Int} : ∀ u ∈ l.map (Value.int .i64), u.oneCell' = true := by
  intro u hu
  obtain ⟨z, _, rfl⟩ := List.mem_map.1 hu
  rfl
end Go.Proofs.Ytgigdipbfcffiaa
