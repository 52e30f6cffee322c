/- Lessons of the call's own are marked: only their blocks change. -/
import Derived.Test.YtajcdaclbammaaaLe2
import Derived.Test.YtajcdaclbammaaaMb
import Derived.Test.YtajcdaclbammaaaMk
namespace Go.Proofs.Ytajcdaclbammaaa
open Go.RowKit Go.BigFrame
attribute [local go_sem] sub_cell sub_frozen drewN_setCell

/-- Only the blocks G and gs have changed, and new ones are there. -/
structure Touch (G : Nat) (gs : List Nat) (w w' : World) : Prop where
  os : w'.os = w.os
  tape : w'.tape = w.tape
  output : w'.output = w.output
  size : w.heap.size ≤ w'.heap.size
  block : ∀ b, b < w.heap.size → b ≠ G → b ∉ gs → w'.heap[b]? = w.heap[b]?
section
variable {G : Nat} {gs : List Nat} {w a b : World}
theorem Touch.refl (G : Nat) (gs : List Nat) (w : World) : Touch G gs w w := ⟨rfl, rfl, rfl, Nat.le_refl _, fun _ _ _ _ => rfl⟩
theorem Touch.trans (h : Touch G gs w a) (k : Touch G gs a b) : Touch G gs w b :=
  ⟨k.os.trans h.os, k.tape.trans h.tape, k.output.trans h.output, Nat.le_trans h.size k.size, fun i h1 h2 h3 => (k.block i (Nat.lt_of_lt_of_le h1 h.size) h2 h3).trans (h.block i h1 h2 h3)⟩
theorem Touch.of_below (h : Below w.heap.size w a) : Touch G gs w a := ⟨h.os, h.tape, h.output, h.size, fun i h1 _ _ => h.block i h1⟩
theorem Touch.of_set (o : Nat) (u : Value) : Touch G gs w (w.setCell ⟨G, o, none⟩ u) := ⟨rfl, rfl, rfl, by simp, fun i _ h2 _ => Below.heap_setCell w ⟨G, o, none⟩ u i h2⟩
theorem Touch.of_grown {g : Nat} (h : w.grownBy a (some g)) (hg : g ∈ gs) : Touch G gs w a := ⟨h.os, h.tape, h.output, h.size, fun i h1 _ h3 => h.block i h1 (fun e => h3 (by injection e with e; rw [e]; exact hg))⟩
/-- What lies elsewhere stays. -/
theorem Touch.own {base n sz : Nat} {e : TypeId} {v : Value} {xs : List Value} (h : Touch G gs w a) (ho : w.ownsRow base e sz v n xs) (h1 : ∀ g, v.ownBlock = some g → g ≠ G ∧ g ∉ gs) : a.ownsRow base e sz v n xs := by
  refine ⟨ho.1, ?_⟩
  rcases ho.2 with h2 | ⟨g, cap, cur, hv, hg, hr, r⟩
  · exact .inl h2
  · subst hv
    obtain ⟨h3, h4⟩ := h1 g rfl
    exact .inr ⟨g, cap, cur, rfl, hg, (h.block g (Array.getElem?_eq_some_iff.1 hr).1 h3 h4).trans hr, r⟩
theorem Touch.below {B : Nat} (h : Touch G gs w a) (hG : B ≤ G) (hgs : ∀ g ∈ gs, B ≤ g) (hB : B ≤ w.heap.size) : Below B w a :=
  ⟨h.os, h.tape, h.output, h.size, fun k hk => h.block k (by omega) (by omega) (fun hm => by have := hgs k hm; omega)⟩
end
def needW (x : TLesson) : Nat := x.2.2.1.length
structure MkL (w : World) (G n : Nat) (l : List TLesson) (gs : List Nat) : Prop where
  row : ∃ f, w.rowIs G 51 (n * 4) f ∧ ∀ (j g : Nat) (x : TLesson), gs[j]? = some g → l[j]? = some x → f (j * 4 + 2) = .slice (some ⟨g, 0, none⟩) x.2.2.1.length x.2.2.1.length
  own : ∀ (j g : Nat) (x : TLesson), gs[j]? = some g → l[j]? = some x → ∃ zs : List Int, zs.length = x.2.2.1.length ∧ w.ownsRow (G + 1) 2 1 (.slice (some ⟨g, 0, none⟩) x.2.2.1.length x.2.2.1.length) x.2.2.1.length (zs.map (Value.int .i64))
  inc : gs.Pairwise (· < ·)
section
variable {w w' : World} {G n : Nat} {l : List TLesson} {gs : List Nat}
theorem MkL.of (h : OwnLs w G l gs) (hn : l.length = n) : MkL w G n l gs := by
  have hr := rawL_len (l := l) (gs := gs) (by rw [h.len]; exact Nat.le_refl _)
  refine ⟨⟨_, by have := h.row.2; rwa [hr, h.len, hn] at this, fun j g x hg hx => ?_⟩, fun j g x hg hx => ⟨_, rfl, h.own j g x hg hx⟩, h.inc⟩
  show (flat lessonC (rawL l gs))[j * 4 + 2]?.getD undef = _
  rw [flat_get lessonC_len (rawL_get hx hg) (j := 2) rfl]
  rfl
theorem MkL.later (h : MkL w G n l gs) (hb : Below w.heap.size w w') : MkL w' G n l gs := by
  obtain ⟨⟨f, h1, h2⟩, h3, h4⟩ := h
  exact ⟨⟨f, h1.of_block (hb.block _ h1.lt), h2⟩, fun j g x hg hx => by obtain ⟨zs, hl, ho⟩ := h3 j g x hg hx; exact ⟨zs, hl, own_below ho hb⟩, h4⟩
theorem MkL.set (h : MkL w G n l gs) {o : Nat} (ho : ∀ j, o ≠ j * 4 + 2) (u : Value) : MkL (w.setCell ⟨G, o, none⟩ u) G n l gs := by
  obtain ⟨⟨f, h1, h2⟩, h3, h4⟩ := h
  refine ⟨⟨_, h1.set o u, fun j g x hg hx => ?_⟩, fun j g x hg hx => by obtain ⟨zs, hl, how⟩ := h3 j g x hg hx; exact ⟨zs, hl, own_far how (by dsimp only; omega) u⟩, h4⟩
  show (if j * 4 + 2 = o then u else f (j * 4 + 2)) = _
  rw [if_neg (fun e => ho j e.symm)]
  exact h2 j g x hg hx
theorem MkL.mark {j g : Nat} {x : TLesson} {zs : List Int} (h : MkL w G n l gs) (hg : gs[j]? = some g) (hx : l[j]? = some x) (hl : zs.length = x.2.2.1.length) (ho : w'.ownsRow (G + 1) 2 1 (.slice (some ⟨g, 0, none⟩) x.2.2.1.length x.2.2.1.length) x.2.2.1.length (zs.map (Value.int .i64))) (hgr : w.grownBy w' (some g)) : MkL w' G n l gs := by
  obtain ⟨⟨f, h1, h2⟩, h3, h4⟩ := h
  obtain ⟨zs0, _, ho0⟩ := h3 j g x hg hx
  have hgG := (ho0.lt g rfl).1
  refine ⟨⟨f, h1.of_block (hgr.block _ h1.lt (fun e => by injection e with e; omega)), h2⟩, fun j' g' x' hg' hx' => ?_, h4⟩
  by_cases e : j' = j
  · subst e
    rw [hg] at hg'
    rw [hx] at hx'
    injection hg' with hg'
    injection hx' with hx'
    subst hg' hx'
    exact ⟨zs, hl, ho⟩
  · obtain ⟨zs', hl', ho'⟩ := h3 j' g' x' hg' hx'
    have hne : g' ≠ g := by
      obtain ⟨a1, b1⟩ := List.getElem?_eq_some_iff.1 hg
      obtain ⟨a2, b2⟩ := List.getElem?_eq_some_iff.1 hg'
      have hp := List.pairwise_iff_getElem.1 h4
      rcases Nat.lt_or_ge j' j with c | c
      · have := hp j' j a2 a1 c; omega
      · have := hp j j' a1 a2 (by omega); omega
    exact ⟨zs', hl', World.ownsRow.kept ho' hgr (.inr (by simp [Value.ownBlock, hne]))⟩
end
set_option maxRecDepth 20000 in
set_option maxHeartbeats 8000000 in
theorem c_markLessonS (G n : Nat) (l : List TLesson) (gs : List Nat) (k0 : Nat) (w : World) (h : MkL w G n l gs) (hl : l.length = n) (hgl : gs.length = n) (hn : n ≤ 1048576) (hs : sumW needW l ≤ 1048576) (hk0 : 0 < k0) (hk1 : k0 ≤ 1048576) :
    Calls Try.prog 22 #[.slice (some ⟨G, 0, none⟩) n n, .int .i64 (k0 : Int)] w fun r w' => ∃ v : Nat, r = .returned (.int .i64 (v : Int)) ∧ 0 < v ∧ v ≤ 1099511627776 ∧ Touch G gs w w' := by
  have HL := Lib.hid hl
  have HGL := Lib.hid hgl
  have HSW := Lib.hid hs
  have HM := Lib.hid h
  clear hl hgl hs h
  go_enter Try.func22, Try.ntmps22
  go_wp2_with fail
  go_loopw [1, 5] (fun q i wr => ∃ k K : Nat, k ≤ n ∧ i = .int .i64 k ∧ q = .int .i64 K ∧ 0 < K ∧ Hid (K = k0 + k * 3 + sumW needW (l.take k)) ∧ Touch G gs w wr ∧ Hid (MkL wr G n l gs)) (fun _ i _ => n - (intOf i).toNat)
  case atStart => exact ⟨0, k0, Nat.zero_le _, rfl, rfl, hk0, by show _ = _; simp [sumW], Touch.refl _ _ _, HM⟩
  case round =>
    obtain ⟨k, K, hk, rfl, rfl, hK0, hK, hT, hm⟩ := hrel
    have hKb : K ≤ 1048576 * 5 := by have h1 := hK.out; have h2 := sumW_le (f := needW) l k; have h3 := HSW.out; omega
    by_cases hlt : k < n
    · obtain ⟨x, hx⟩ : ∃ x, l[k]? = some x := ⟨_, List.getElem?_eq_getElem (by rw [HL.out]; exact hlt)⟩
      obtain ⟨g, hg⟩ : ∃ g, gs[k]? = some g := ⟨_, List.getElem?_eq_getElem (by rw [HGL.out]; exact hlt)⟩
      have hst := sumW_step (f := needW) hx
      have hle := sumW_le (f := needW) l (k + 1)
      have hle2 := HSW.out
      obtain ⟨m, hmx⟩ : ∃ m, x.2.2.1.length = m := ⟨_, rfl⟩
      have hw : needW x = m := hmx
      have hmb : m ≤ 1048576 := by omega
      have HX := Lib.hid hx
      have HG := Lib.hid hg
      have HST : Hid (sumW needW (l.take (k + 1)) = sumW needW (l.take k) + m) := by show _ = _; rw [hst, hw]
      have HMX := Lib.hid hmx
      have hkn : k * 4 + 4 ≤ n * 4 := by omega
      clear hx hg hst hle hle2 hw hmx
      have PRE : Hid (∀ W, MkL W G n l gs → G < W.heap.size ∧ (∃ v, W.cell? ⟨G, k * 4, none⟩ = some v) ∧ W.frozen? ⟨G, k * 4, none⟩ = false ∧ (∃ v, W.cell? ⟨G, k * 4 + 1, none⟩ = some v) ∧ W.frozen? ⟨G, k * 4 + 1, none⟩ = false ∧ W.cell? ⟨G, k * 4 + 2, none⟩ = some (.slice (some ⟨g, 0, none⟩) m m) ∧ (∃ v, W.cell? ⟨G, k * 4 + 3, none⟩ = some v) ∧ W.frozen? ⟨G, k * 4 + 3, none⟩ = false) := by
        intro W hW
        obtain ⟨f, h1, h2⟩ := hW.row
        exact ⟨h1.lt, ⟨_, h1.cell (by omega)⟩, h1.frozen _, ⟨_, h1.cell (by omega)⟩, h1.frozen _, by rw [h1.cell (by omega), h2 k g x HG.out HX.out, HMX.out], ⟨_, h1.cell (by omega)⟩, h1.frozen _⟩
      have HGM : Hid (g ∈ gs) := List.mem_of_getElem? HG.out
      go_wp2_with (first
        | (go_at_call 49; refine (c_markTextI _ K (by omega) (by omega) (by omega) _).mono ?_; rintro r_ w1 ⟨rfl, hb1⟩; have M1 := Lib.hid (hm.out.later hb1); have T1 := Lib.hid (hT.trans (Touch.of_below hb1)); obtain ⟨hG1, ⟨v0, r0⟩, f0, _⟩ := PRE.out _ M1.out; have M1s := Lib.hid (M1.out.set (o := k * 4) (by omega) (.string (mtx K))); clear hb1)
        | (go_at_call 49; refine (c_markTextI _ (K + 1) (by omega) (by omega) (by omega) _).mono ?_; rintro r_ w2 ⟨rfl, hb2⟩; have M2 := Lib.hid (M1s.out.later hb2); have T2 := Lib.hid ((T1.out.trans (Touch.of_set _ _)).trans (Touch.of_below hb2)); obtain ⟨hG2, _, _, ⟨v1, r1⟩, f1, c2, _⟩ := PRE.out _ M2.out; have M2s := Lib.hid (M2.out.set (o := k * 4 + 1) (by omega) (.string (mtx (K + 1)))); obtain ⟨_, _, _, _, _, c2s, _⟩ := PRE.out _ M2s.out; obtain ⟨zs, hzl, hzo⟩ := M2s.out.own k g x HG.out HX.out; rw [HMX.out] at hzl hzo; have HZL := Lib.hid hzl; have HZO := Lib.hid hzo; clear hb2 hzl hzo)
        | (go_at_call 23; refine (c_markInt64S _ m m _ zs _ _ HZL.out HZO.out (by omega) (by omega) (by omega)).mono ?_; rintro r_ w3 ⟨rfl, ho3, hg3⟩; have M3 := Lib.hid (M2s.out.mark HG.out HX.out (zs := upN _ m) (by rw [HMX.out]; simp [upN]) (by rw [HMX.out]; exact ho3) hg3); have T3 := Lib.hid ((T2.out.trans (Touch.of_set _ _)).trans (Touch.of_grown hg3 HGM.out)); obtain ⟨hG3, _, _, _, _, _, ⟨v3, r3⟩, f3⟩ := PRE.out _ M3.out; clear ho3 hg3))
      go_roundw
      case rel => exact ⟨k + 1, K + 2 + m + 1, by omega, by go_num, by go_num, by omega, by have h1 := hK.out; have h2 := HST.out; show _ = _; omega, T3.out.trans (Touch.of_set _ _), M3.out.set (by omega) _⟩
      case measure => simp [intOf]; omega
    · have hke : k = n := by omega
      subst hke
      go_wp2_with fail
      go_ret
      exact ⟨K, rfl, hK0, by omega, hT⟩
theorem needW_le (l : List TLesson) : sumW needW l ≤ sumW lessonW l := by
  induction l with
  | nil => simp [sumW]
  | cons a l ih =>
    simp only [sumW, List.map_cons, List.sum_cons] at *
    have : needW a ≤ lessonW a := by simp only [needW, lessonW]; omega
    omega
theorem OwnLs.gs_lt {w : World} {G : Nat} {l : List TLesson} {gs : List Nat} (h : OwnLs w G l gs) : ∀ g ∈ gs, G + 1 ≤ g ∧ g < w.heap.size := by
  intro g hg
  obtain ⟨j, hj⟩ := List.getElem?_of_mem hg
  have hjl := (List.getElem?_eq_some_iff.1 hj).1
  exact (h.own j g _ hj (List.getElem?_eq_getElem (by rw [← h.len]; exact hjl))).lt g rfl
end Go.Proofs.Ytajcdaclbammaaa
