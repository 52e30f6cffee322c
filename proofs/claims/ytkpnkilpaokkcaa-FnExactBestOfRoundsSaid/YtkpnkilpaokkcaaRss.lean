/- Lists of lists of results: what the laws do with them (sizes, mirrors, comparison, marks). -/
import Derived.Test.YtkpnkilpaokkcaaBr1
import Derived.Test.YtkpnkilpaokkcaaMkResult
import Derived.OwnWalk
namespace Go.Proofs.Ytkpnkilpaokkcaa
open Go.RowKit Go.BigFrame
attribute [local go_sem] sub_cell sub_frozen drewN_setCell

/-- A slice of slices of results that is read. -/
def Rss (w : World) (A : Option Addr) (n : Nat) (ll : List (List TResult)) : Prop :=
  ll.length = n ∧ (n = 0 ∨ ∃ b o, A = some ⟨b, o, none⟩ ∧ b < w.heap.size ∧ ∀ k l, ll[k]? = some l → ∃ S m c, w.cell? ⟨b, o + k, none⟩ = some (.slice S m c) ∧ Sl resultC w w.heap.size 3 S m l)
section
variable {w wr : World} {A : Option Addr} {n k : Nat} {ll : List (List TResult)}
theorem Rss.len (h : Rss w A n ll) : ll.length = n := h.1
theorem Rss.later (h : Rss w A n ll) (hb : Below w.heap.size w wr) : Rss wr A n ll := by
  refine ⟨h.1, ?_⟩
  rcases h.2 with h0 | ⟨b, o, e, hlt, hc⟩
  · exact .inl h0
  · refine .inr ⟨b, o, e, by have := hb.size; omega, fun k l hk => ?_⟩
    obtain ⟨S, m, c, h1, h2⟩ := hc k l hk
    exact ⟨S, m, c, (hb.cell (p := ⟨b, o + k, none⟩) hlt).trans h1, h2.later hb⟩
theorem rss_at (h : Rss w A n ll) (hb : Below w.heap.size w wr) (hk : k < n) :
    ∃ b o S m c l, A = some ⟨b, o, none⟩ ∧ b < wr.heap.size ∧ b < w.heap.size ∧ ll[k]? = some l ∧ wr.cell? ⟨b, o + k, none⟩ = some (.slice S m c) ∧ Sl resultC wr wr.heap.size 3 S m l := by
  have hln := h.1
  rcases h.2 with h0 | ⟨b, o, e, hlt, hc⟩
  · omega
  · obtain ⟨l, hl⟩ : ∃ l, ll[k]? = some l := ⟨_, List.getElem?_eq_getElem (by omega)⟩
    obtain ⟨S, m, c, h1, h2⟩ := hc k l hl
    exact ⟨b, o, S, m, c, l, e, by have := hb.size; omega, hlt, hl, (hb.cell (p := ⟨b, o + k, none⟩) hlt).trans h1, h2.later hb⟩
theorem rss_atB {b o : Nat} (h : Rss w (some ⟨b, o, none⟩) n ll) (hb : Below w.heap.size w wr) (hk : k < n) :
    ∃ S m c l, b < wr.heap.size ∧ b < w.heap.size ∧ ll[k]? = some l ∧ wr.cell? ⟨b, o + k, none⟩ = some (.slice S m c) ∧ Sl resultC wr wr.heap.size 3 S m l := by
  obtain ⟨b', o', S, m, c, l, hA, r⟩ := rss_at h hb hk
  simp only [Option.some.injEq, Addr.mk.injEq, and_true] at hA
  obtain ⟨rfl, rfl⟩ := hA
  exact ⟨S, m, c, l, r⟩
end
/-- Sizes of what came in. -/
def RssSz (ll : List (List TResult)) : Prop := ∀ l ∈ ll, l.length ≤ maxLen ∧ ∀ x ∈ l, x.1.size ≤ maxLen
def rsW (l : List TResult) : Nat := l.length + sumW resultW l
set_option maxHeartbeats 2000000 in
theorem c_szResultSS (A : Option Addr) (n c : Nat) (l : List (List TResult)) (left r : Int) (w : World) (ha : Rss w A n l) (hs : RssSz l) (hn : n ≤ maxLen) (hl : 0 ≤ left) (hl2 : left ≤ 1048576) (h : szV (n + sumW rsW l) left = r) :
    Calls Try.prog 4 #[.slice A n c, .int .i64 left] w fun e w' => e = .returned (.int .i64 r) ∧ Below w.heap.size w w' := by
  subst h
  unfold maxLen at hn
  have HS := Lib.hid hs
  have HL := Lib.hid ha.len
  have HA := Lib.hid ha
  clear hs ha
  by_cases h : left - n < 0
  · rw [szV_neg (by omega)]
    go_enter Try.func4, Try.ntmps4
    go_wp2_with fail
    go_ret
    exact ⟨rfl, Below.refl _ _⟩
  · go_enter Try.func4, Try.ntmps4
    go_wp2_with fail
    go_loopw [1, 5] (fun q i wr => ∃ k : Nat, ∃ v : Int, k ≤ n ∧ i = .int .i64 k ∧ q = .int .i64 v ∧ 0 ≤ v ∧ v ≤ 1048576 ∧ Below w.heap.size w wr ∧ Hid (v = left - n - (sumW rsW (l.take k) : Nat))) (fun _ i _ => n - (intOf i).toNat)
    case atStart => exact ⟨0, left - n, Nat.zero_le _, rfl, rfl, by omega, by omega, Below.refl _ _, by show left - n = _; simp [sumW]⟩
    case round =>
      obtain ⟨k, v, hk, rfl, rfl, hv0, hv1, hB, hv⟩ := hrel
      have hz := hB.size
      by_cases hlt : k < n
      · obtain ⟨b, o, S, m, cc, x, rfl, hb1, hb2, hx, c0, hzs⟩ := rss_at HA.out hB hlt
        obtain ⟨h1, h1b⟩ := HS.out _ (List.mem_of_getElem? hx)
        have hzl := hzs.1
        have hst := sumW_step (f := rsW) hx
        rw [show rsW x = x.length + sumW resultW x from rfl, hzl] at hst
        have hst2 := sumW_le (f := rsW) l (k + 1)
        have H1b := Lib.hid h1b
        have hmm : m ≤ maxLen := by omega
        have HX := Lib.hid hx
        have HV := hv
        have HZS := Lib.hid hzs
        clear hx hv hzs hzl h1 h1b
        cases hq : decide (v - ((m + sumW resultW x : Nat) : Int) < 0)
        · have hq' : 0 ≤ v - ((m + sumW resultW x : Nat) : Int) := by simpa using hq
          have H1 := Lib.hid (c_szResultS S m cc x v _ _ HZS.out H1b.out hmm hv0 hv1 (szV_pos hq'))
          have hu : (0 : Int) ≤ ((m + sumW resultW x : Nat) : Int) := by omega
          have hnn : ¬ (v - ((m + sumW resultW x : Nat) : Int) < 0) := by omega
          have HST := Lib.hid hst
          clear hst hst2 hq
          go_wp2_with (go_at_call 13; refine H1.out.mono ?_; rintro r_ w1 ⟨rfl, hb1⟩; have hB1 := later hb1 (w := w) (by (repeat' (first | (with_reducible exact Below.refl _ _) | (with_reducible assumption) | (with_reducible refine below_drewN ?_ _) | (with_reducible refine Below.drew ?_) | (with_reducible refine Below.alloc ?_ ?_ _) | (with_reducible refine Below.setCell ?_ ?_ _) | go_size))))
          go_roundw
          case rel => exact ⟨k + 1, _, by omega, by go_num, rfl, hq', by omega, hB1, by have e1 := HST.out; have e2 := HV.out; show v - _ = _; omega⟩
          case measure => simp [intOf]; omega
        · have hq' : v - ((m + sumW resultW x : Nat) : Int) < 0 := by simpa using hq
          have H1 := Lib.hid (c_szResultS S m cc x v _ _ HZS.out H1b.out hmm hv0 hv1 (szV_neg hq'))
          have hfin : left - ((n + sumW rsW l : Nat) : Int) < 0 := by
            have e2 := HV.out
            omega
          have HF := Lib.hid hfin
          clear hst hst2 hq hfin
          go_wp2_with (go_at_call 13; refine H1.out.mono ?_; rintro r_ w1 ⟨rfl, hb1⟩; have hB1 := later hb1 (w := w) (by (repeat' (first | (with_reducible exact Below.refl _ _) | (with_reducible assumption) | (with_reducible refine below_drewN ?_ _) | (with_reducible refine Below.drew ?_) | (with_reducible refine Below.alloc ?_ ?_ _) | (with_reducible refine Below.setCell ?_ ?_ _) | go_size))))
          go_ret
          exact ⟨by rw [szV_neg HF.out]; rfl, hB1⟩
      · go_wp2_with fail
        go_ret
        obtain rfl : k = n := by omega
        have e2 := hv.out
        rw [List.take_of_length_le (by rw [HL.out]; omega)] at e2
        exact ⟨by rw [szV_pos (by omega)]; exact ret_int (by omega), hB⟩
set_option maxHeartbeats 1000000 in
theorem c_eqResultSS (A B : Option Addr) (n c d : Nat) (l : List (List TResult)) (w : World) (ha : Rss w A n l) (hb : Rss w B n l) (hsz : ∀ x ∈ l, x.length ≤ 4611686018427387904) (hn : n ≤ 4611686018427387904) :
    Calls Try.prog 9 #[.slice A n c, .slice B n d] w fun r w' => r = .returned (.bool true) ∧ Below w.heap.size w w' := by
  have HA := Lib.hid ha
  have HB := Lib.hid hb
  have HS := Lib.hid hsz
  clear ha hb hsz
  go_enter Try.func9, Try.ntmps9
  go_wp2_with fail
  go_loopw [5] (fun i wr => ∃ k : Nat, k ≤ n ∧ i = .int .i64 k ∧ Below w.heap.size w wr) (fun i _ => n - (intOf i).toNat)
  case atStart => exact ⟨0, Nat.zero_le _, rfl, Below.refl _ _⟩
  case round =>
    obtain ⟨k, hk, rfl, hB⟩ := hrel
    by_cases hlt : k < n
    · obtain ⟨b, o, S, m, cc, x, rfl, hb1, hb2, hx, c0, hzs⟩ := rss_at HA.out hB hlt
      obtain ⟨b', o', S', m', cc', x', rfl, hb1', hb2', hx', c0', hzs'⟩ := rss_at HB.out hB hlt
      rw [hx] at hx'
      simp only [Option.some.injEq] at hx'
      subst hx'
      have hm1 := hzs.1
      have hm2 := hzs'.1
      obtain rfl : m = m' := by omega
      have h13 := HS.out _ (List.mem_of_getElem? hx)
      have hz := hB.size
      have i1 : (k : Int) < n := by omega
      have C := Lib.hid (fun (W : World) (hW : Below wr.heap.size wr W) => c_eqResultS S S' m cc cc' x W (hzs.later hW) (hzs'.later hW) (by omega))
      clear hx hzs hzs' h13 hm1 hm2
      go_wp2_with fail
      refine wp_region_below (by kernel_rfl) (by kernel_rfl) ?_
      repeat (go_big_quiet_step ((go_at_call 8; refine qBg (C.out _ (Later.h _)) (by simp) ?_; intro w_ h_; (first | exact h_ | exact h_.below))))
      refine wpQuiet_nil ?_
      intro _ hw'
      obtain ⟨⟨w9, hb9⟩, hw''⟩ := hw'
      subst hw''
      have hB1 := hB.trans (hb9.mono hz)
      go_wp2_with fail
      go_roundw
      case rel => exact ⟨k + 1, by omega, by go_num, hB1⟩
      case measure => simp [intOf]; omega
    · go_wp2_with fail
      go_ret
      exact ⟨rfl, hB⟩
theorem info_ResultS : (Try.prog.info? 24).map (fun i => (i.zero, i.size, i.bytes)) = some (some (.slice none 0 0), 1, 24) := by kernel_rfl
/-- The place of a list that lies in a block of its own. -/
def refV (ll : List (List TResult)) (gs : List Nat) (i : Nat) : Value := .slice (some ⟨gs.getD i 0, 0, none⟩) (ll.getD i []).length (ll.getD i []).length
/-- Lists that the call itself has made: block G, and a block of its own for each of them. -/
structure OwnRss (w : World) (G : Nat) (ll : List (List TResult)) (gs : List Nat) : Prop where
  row : w.rowIs G 24 ll.length (refV ll gs)
  len : gs.length = ll.length
  own : ∀ (j g : Nat) (l : List TResult), gs[j]? = some g → ll[j]? = some l → ∃ l' : List TResult, l'.length = l.length ∧ w.ownsRow (G + 1) 38 3 (.slice (some ⟨g, 0, none⟩) l.length l.length) l.length (flat resultC l')
  inc : gs.Pairwise (· < ·)
/-- .. with what they were made of. -/
def Same (w : World) (G : Nat) (ll : List (List TResult)) (gs : List Nat) : Prop := ∀ (j g : Nat) (l : List TResult), gs[j]? = some g → ll[j]? = some l → w.ownsRow (G + 1) 38 3 (.slice (some ⟨g, 0, none⟩) l.length l.length) l.length (flat resultC l)
section
variable {w w' : World} {G n : Nat} {ll : List (List TResult)} {gs : List Nat}
theorem OwnRss.lt (h : OwnRss w G ll gs) : G < w.heap.size := h.row.lt
theorem OwnRss.later (h : OwnRss w G ll gs) (hb : Below w.heap.size w w') : OwnRss w' G ll gs :=
  ⟨h.row.of_block (hb.block _ h.lt), h.len, fun j g l h1 h2 => by obtain ⟨l', e, ho⟩ := h.own j g l h1 h2; exact ⟨l', e, own_below ho hb⟩, h.inc⟩
theorem Same.later (h : Same w G ll gs) (hb : Below w.heap.size w w') : Same w' G ll gs := fun j g l h1 h2 => own_below (h j g l h1 h2) hb
theorem OwnRss.rss (h : OwnRss w G ll gs) (hs : Same w G ll gs) (hn : ll.length = n) : Rss w (some ⟨G, 0, none⟩) n ll := by
  refine ⟨hn, .inr ⟨G, 0, rfl, h.lt, fun k l hk => ?_⟩⟩
  have hkl := (List.getElem?_eq_some_iff.1 hk).1
  obtain ⟨g, hg⟩ : ∃ g, gs[k]? = some g := ⟨_, List.getElem?_eq_getElem (by rw [h.len]; exact hkl)⟩
  have hc := h.row.cell hkl
  rw [refV, List.getD_eq_getElem?_getD, List.getD_eq_getElem?_getD, hg, hk] at hc
  exact ⟨_, _, _, by rw [Nat.zero_add]; exact hc, result_own rfl (hs k g l hg hk)⟩
theorem OwnRss.gs_lt (h : OwnRss w G ll gs) : ∀ g ∈ gs, G + 1 ≤ g ∧ g < w.heap.size := by
  intro g hg
  obtain ⟨j, hj⟩ := List.getElem?_of_mem hg
  have hjl := (List.getElem?_eq_some_iff.1 hj).1
  obtain ⟨l', _, ho⟩ := h.own j g _ hj (List.getElem?_eq_getElem (by rw [← h.len]; exact hjl))
  exact ho.lt g rfl
end
set_option maxRecDepth 20000 in
set_option maxHeartbeats 4000000 in
theorem c_toResultSS (A : Option Addr) (n c : Nat) (l : List (List TResult)) (w : World) (ha : Rss w A n l) (hn : n ≤ 1048576) (hsz : ∀ x ∈ l, x.length ≤ 1048576) :
    Calls Try.prog 6 #[.slice A n c] w fun r w' => r = .returned (.slice (some ⟨w.heap.size, 0, none⟩) n n) ∧ (∃ gs, OwnRss w' w.heap.size l gs ∧ Same w' w.heap.size l gs) ∧ Below w.heap.size w w' := by
  have hmk := run_make_any (P := Try.prog) 27 24 _ 1 24 Try.underlying27 info_ResultS .i64 .i64 n (by omega) (by omega)
  simp only [Nat.mul_one] at hmk
  have HL := Lib.hid ha.len
  have HA := Lib.hid ha
  have HS := Lib.hid hsz
  clear ha hsz
  go_enter Try.func6, Try.ntmps6
  go_wp2_with fail
  go_loopw [4] (fun i wr => ∃ k : Nat, k ≤ n ∧ i = .int .i64 k ∧ Below w.heap.size w wr ∧ ∃ gs : List Nat, gs.length = k ∧ Hid (∃ f, wr.rowIs w.heap.size 24 n f ∧ ∀ i, i < k → f i = refV l gs i) ∧ Hid (Same wr w.heap.size l gs) ∧ Hid (gs.Pairwise (· < ·) ∧ ∀ g ∈ gs, g < wr.heap.size)) (fun i _ => n - (intOf i).toNat)
  case atStart => exact ⟨0, Nat.zero_le _, rfl, by (repeat' (first | (with_reducible exact Below.refl _ _) | (with_reducible assumption) | (with_reducible refine below_drewN ?_ _) | (with_reducible refine Below.drew ?_) | (with_reducible refine Below.alloc ?_ ?_ _) | (with_reducible refine Below.setCell ?_ ?_ _) | go_size)), [], rfl, Lib.hid ⟨_, rowIs_made _ _ _, fun i h => by omega⟩, Lib.hid (fun j g x h => by simp at h), Lib.hid (by simp)⟩
  case round =>
    obtain ⟨k, hk, rfl, hB, gs, hgs, hrow, hown, hinc⟩ := hrel
    rename World => wr
    by_cases hlt : k < n
    · obtain ⟨b, o, S, m, cc, x, rfl, hb1, hb2, hx, c0, hzs⟩ := rss_at HA.out hB hlt
      have hz := hB.size
      obtain ⟨f, hf, hfi⟩ := hrow.out
      have hg := hf.lt
      obtain rfl : x.length = m := hzs.1
      have hm := HS.out _ (List.mem_of_getElem? hx)
      have C := Lib.hid (c_toResultS S x.length cc x wr hzs hm)
      have HX := Lib.hid hx
      have HF := Lib.hid hf
      have HFI := Lib.hid hfi
      have HINC := hinc
      have HOWN := hown
      have i1 : (k : Int) < n := by omega
      clear hx hmk hzs hf hfi hrow hinc hown
      go_wp2_with (go_at_call 16; refine C.out.mono ?_; rintro r_ w1 ⟨rfl, ho1, hb3⟩; have HR1 := Lib.hid (HF.out.of_block (hb3.block _ hg)); obtain ⟨v0, r0⟩ : ∃ v, w1.cell? ⟨w.heap.size, k, none⟩ = some v := ⟨_, HR1.out.cell hlt⟩; have f0 := HR1.out.frozen k; have hz3 := hb3.size; have HB3 := Lib.hid hb3; have HO1 := Lib.hid ho1; have hlt1 := ho1.lt; clear hb3 ho1)
      go_roundw
      case rel =>
        refine ⟨k + 1, by omega, by go_num, ?_, gs ++ [wr.heap.size], by simp [hgs], Lib.hid ⟨_, HR1.out.set k _, fun i hi => ?_⟩, Lib.hid ?_, Lib.hid ?_⟩
        · exact (hB.trans (HB3.out.mono hz)).setCell (Nat.le_refl _) _
        · show (if i = k then _ else f i) = _
          by_cases e : i = k
          · subst e
            rw [if_pos rfl, refV, List.getD_eq_getElem?_getD, List.getD_eq_getElem?_getD, HX.out, List.getElem?_append_right (by omega), hgs]
            simp
          · rw [if_neg e, HFI.out i (by omega)]
            simp only [refV, List.getD_eq_getElem?_getD]
            rw [List.getElem?_append_left (by omega)]
        · intro j g' y h1 h2
          by_cases hj : j < gs.length
          · rw [List.getElem?_append_left hj] at h1
            have ho := own_below (HOWN.out j g' y h1 h2) HB3.out
            exact ownsRow_setCell_other ho (own_ne_old ho (by dsimp only; omega)) _
          · have hj2 : j = k := by
              have := (List.getElem?_eq_some_iff.1 h1).1
              simp at this
              omega
            subst hj2
            rw [List.getElem?_append_right (by omega), hgs] at h1
            simp at h1
            subst h1
            rw [HX.out] at h2
            simp only [Option.some.injEq] at h2
            subst h2
            have ho := result_slOwn (base := w.heap.size + 1) HO1.out rfl (by omega) (by simp only [maxLen]; omega)
            exact ownsRow_setCell_other ho (own_ne_old ho (by dsimp only; omega)) _
        · refine ⟨List.pairwise_append.2 ⟨HINC.out.1, by simp, fun a ha b hb => ?_⟩, fun a ha => ?_⟩
          · have := HINC.out.2 a ha
            rw [List.mem_singleton.1 hb]; exact this
          · simp only [World.size_setCell]
            rcases List.mem_append.1 ha with ha | ha
            · have := HINC.out.2 a ha
              omega
            · rw [List.mem_singleton.1 ha]; exact hlt1
      case measure => simp [intOf]; omega
    · have hkn : k = n := by omega
      subst hkn
      clear hmk
      go_wp2_with fail
      go_ret
      obtain ⟨f, hf, hfi⟩ := hrow.out
      have hl := HL.out
      refine ⟨rfl, ⟨gs, ⟨by rw [hl]; exact hf.congr fun i hi => hfi i hi, by rw [hl, hgs], fun j g x h1 h2 => ⟨x, rfl, hown.out j g x h1 h2⟩, hinc.out.1⟩, hown.out⟩, hB⟩
/-- Only the blocks gs have changed, and new ones are there. -/
structure Touch (gs : List Nat) (w w' : World) : Prop where
  os : w'.os = w.os
  tape : w'.tape = w.tape
  output : w'.output = w.output
  size : w.heap.size ≤ w'.heap.size
  block : ∀ b, b < w.heap.size → b ∉ gs → w'.heap[b]? = w.heap[b]?
section
variable {gs : List Nat} {w a b : World}
theorem Touch.refl (gs : List Nat) (w : World) : Touch gs w w := ⟨rfl, rfl, rfl, Nat.le_refl _, fun _ _ _ => rfl⟩
theorem Touch.trans (h : Touch gs w a) (k : Touch gs a b) : Touch gs w b :=
  ⟨k.os.trans h.os, k.tape.trans h.tape, k.output.trans h.output, Nat.le_trans h.size k.size, fun i h1 h2 => (k.block i (Nat.lt_of_lt_of_le h1 h.size) h2).trans (h.block i h1 h2)⟩
theorem Touch.of_grown {g : Nat} (h : w.grownBy a (some g)) (hg : g ∈ gs) : Touch gs w a := ⟨h.os, h.tape, h.output, h.size, fun i h1 h3 => h.block i h1 (fun e => h3 (by injection e with e; rw [e]; exact hg))⟩
theorem Touch.own {base n sz : Nat} {e : TypeId} {v : Value} {xs : List Value} (h : Touch gs w a) (ho : w.ownsRow base e sz v n xs) (h1 : ∀ g, v.ownBlock = some g → g ∉ gs) : a.ownsRow base e sz v n xs := by
  refine ⟨ho.1, ?_⟩
  rcases ho.2 with h2 | ⟨g, cap, cur, hv, hg, hr, r⟩
  · exact .inl h2
  · subst hv
    exact .inr ⟨g, cap, cur, rfl, hg, (h.block g (Array.getElem?_eq_some_iff.1 hr).1 (h1 g rfl)).trans hr, r⟩
theorem Touch.below {B : Nat} (h : Touch gs w a) (hgs : ∀ g ∈ gs, B ≤ g) (hB : B ≤ w.heap.size) : Below B w a :=
  ⟨h.os, h.tape, h.output, h.size, fun k hk => h.block k (by omega) (fun hm => by have := hgs k hm; omega)⟩
theorem OwnRss.mark {G j g : Nat} {ll : List (List TResult)} {l l' : List TResult} (h : OwnRss w G ll gs) (hg : gs[j]? = some g) (hx : ll[j]? = some l) (hl : l'.length = l.length) (ho : a.ownsRow (G + 1) 38 3 (.slice (some ⟨g, 0, none⟩) l.length l.length) l.length (flat resultC l')) (hgr : w.grownBy a (some g)) : OwnRss a G ll gs := by
  obtain ⟨l0, _, ho0⟩ := h.own j g l hg hx
  have hgG := (ho0.lt g rfl).1
  refine ⟨h.row.of_block (hgr.block _ h.row.lt (fun e => by injection e with e; omega)), h.len, fun j' g' x' hg' hx' => ?_, h.inc⟩
  by_cases e : j' = j
  · subst e
    rw [hg] at hg'
    rw [hx] at hx'
    injection hg' with hg'
    injection hx' with hx'
    subst hg' hx'
    exact ⟨l', hl, ho⟩
  · obtain ⟨zs', hl', ho'⟩ := h.own j' g' x' hg' hx'
    have hne : g' ≠ g := by
      obtain ⟨a1, b1⟩ := List.getElem?_eq_some_iff.1 hg
      obtain ⟨a2, b2⟩ := List.getElem?_eq_some_iff.1 hg'
      have hp := List.pairwise_iff_getElem.1 h.inc
      rcases Nat.lt_or_ge j' j with c | c
      · have := hp j' j a2 a1 c; omega
      · have := hp j j' a1 a2 (by omega); omega
    exact ⟨zs', hl', World.ownsRow.kept ho' hgr (.inr (by simp [Value.ownBlock, hne]))⟩
end
def lenW (l : List TResult) : Nat := l.length
theorem lenW_le (ll : List (List TResult)) : sumW lenW ll ≤ sumW rsW ll := by
  induction ll with
  | nil => simp [sumW]
  | cons a l ih =>
    simp only [sumW, List.map_cons, List.sum_cons] at *
    have : lenW a ≤ rsW a := by simp only [lenW, rsW]; omega
    omega
set_option maxRecDepth 20000 in
set_option maxHeartbeats 4000000 in
theorem c_markResultSS (G n : Nat) (l : List (List TResult)) (gs : List Nat) (w : World) (h : OwnRss w G l gs) (hl : l.length = n) (hn : n ≤ 1048576) (hs : sumW lenW l ≤ 1048576) :
    Calls Try.prog 10 #[.slice (some ⟨G, 0, none⟩) n n, .int .i64 1] w fun r w' => ∃ v : Nat, r = .returned (.int .i64 (v : Int)) ∧ 0 < v ∧ v ≤ 1099511627776 ∧ Touch gs w w' := by
  have HL := Lib.hid hl
  have HSW := Lib.hid hs
  have HM := Lib.hid h
  clear hl hs h
  go_enter Try.func10, Try.ntmps10
  go_wp2_with fail
  go_loopw [1, 5] (fun q i wr => ∃ k K : Nat, k ≤ n ∧ i = .int .i64 k ∧ q = .int .i64 K ∧ 0 < K ∧ Hid (K = 1 + 3 * sumW lenW (l.take k)) ∧ Touch gs w wr ∧ Hid (OwnRss wr G l gs)) (fun _ i _ => n - (intOf i).toNat)
  case atStart => exact ⟨0, 1, Nat.zero_le _, rfl, rfl, by omega, Lib.hid (by simp [sumW]), Touch.refl _ _, HM⟩
  case round =>
    obtain ⟨k, K, hk, rfl, rfl, hK0, hK, hT, hm⟩ := hrel
    have hKb : K ≤ 1048576 * 3 + 1 := by have h1 := hK.out; have h2 := sumW_le (f := lenW) l k; have h3 := HSW.out; omega
    by_cases hlt : k < n
    · obtain ⟨x, hx⟩ : ∃ x, l[k]? = some x := ⟨_, List.getElem?_eq_getElem (by rw [HL.out]; exact hlt)⟩
      obtain ⟨g, hg⟩ : ∃ g, gs[k]? = some g := ⟨_, List.getElem?_eq_getElem (by rw [hm.out.len, HL.out]; exact hlt)⟩
      have hst := sumW_step (f := lenW) hx
      have hle := sumW_le (f := lenW) l (k + 1)
      have hle2 := HSW.out
      obtain ⟨l', hl', ho'⟩ := hm.out.own k g x hg hx
      obtain ⟨m, hmx⟩ : ∃ m, x.length = m := ⟨_, rfl⟩
      have hw : lenW x = m := hmx
      have hmb : m ≤ 1048576 := by omega
      have hc := hm.out.row.cell (i := k) (by rw [HL.out]; exact hlt)
      rw [refV, List.getD_eq_getElem?_getD, List.getD_eq_getElem?_getD, hg, hx] at hc
      simp only [Option.getD_some] at hc
      rw [hmx] at hc ho' hl'
      have hGl := hm.out.lt
      have i1 : (k : Int) < n := by omega
      have C := Lib.hid (c_markResultS (G + 1) m m (some ⟨g, 0, none⟩) l' K _ hl' ho' (by omega) hK0 (by omega))
      have HX := Lib.hid hx
      have HG := Lib.hid hg
      have HST : Hid (sumW lenW (l.take (k + 1)) = sumW lenW (l.take k) + m) := Lib.hid (by show _ = _; rw [hst, hw])
      have HMX := Lib.hid hmx
      clear hx hg hst hle hle2 hw hmx ho' hl'
      go_wp2_with (go_at_call 11; refine C.out.mono ?_; rintro r_ w3 ⟨rfl, ho3, hg3⟩; have M3 := Lib.hid (hm.out.mark HG.out HX.out (l' := resultMs K m) (by rw [HMX.out]; simp [resultMs]) (by rw [HMX.out]; exact ho3) hg3); have T3 := Lib.hid (hT.trans (Touch.of_grown hg3 (List.mem_of_getElem? HG.out))); clear ho3 hg3)
      go_roundw
      case rel => exact ⟨k + 1, K + m * 3, by omega, by go_num, by go_num, by omega, Lib.hid (by have h1 := hK.out; have h2 := HST.out; show _ = _; omega), T3.out, M3⟩
      case measure => simp [intOf]; omega
    · have hke : k = n := by omega
      subst hke
      go_wp2_with fail
      go_ret
      exact ⟨K, rfl, hK0, by omega, hT⟩
open Go.ChangeShapes Go.WideShapes Go.Deep
def refC (x : Option Addr × Nat × Nat) : List Value := [.slice x.1 x.2.1 x.2.2]
theorem refC_len (x : Option Addr × Nat × Nat) : (refC x).length = 1 := rfl
def InRss (w : World) (A : Option Addr) (n : Nat) (l : List (List TResult)) : Prop := Rss w A n l ∧ RssSz l ∧ n ≤ maxLen
theorem choose_list {α β : Type} {R : List α} {P : α → β → Prop} (h : ∀ r ∈ R, ∃ x, P r x) : ∃ l : List β, l.length = R.length ∧ ∀ (k : Nat) (r : α) (x : β), R[k]? = some r → l[k]? = some x → P r x := by
  induction R with
  | nil => exact ⟨[], rfl, fun k r x h => by simp at h⟩
  | cons a R ih =>
    obtain ⟨x, hx⟩ := h a (by simp)
    obtain ⟨l, hl, hP⟩ := ih fun r hr => h r (by simp [hr])
    refine ⟨x :: l, by simp [hl], fun k r y h1 h2 => ?_⟩
    cases k with
    | zero => simp at h1 h2; subst h1; subst h2; exact hx
    | succ k => exact hP k r y (by simpa using h1) (by simpa using h2)
theorem rss_of {H : Type} {enc : TypeId × Value → H} {w : World} {spare : Nat → Bool} {held : Bool} {A : Option Addr} {n c : Nat} {d : DataW H} {p : List MemPlace}
    (h : DataW.Trod enc Try.prog w 0 spare held 22 (.slice A n c) d p) : ∃ l, InRss w A n l := by
  obtain ⟨fuel, hf⟩ := h
  simp only [Value.cells] at hf
  obtain ⟨R, h1, h2, h3⟩ := sl_of_trod refC 1 (by omega) (fun r => ∃ l, InResult w r.1 r.2.1 l) Try.underlying22 (by kernel_rfl) refC_len (fun fuel cs y hy => by
    rcases open_slice Try.underlying35 hy with ⟨h0, _⟩ | ⟨a, len, cap, m, k, D, Pl, h0, hb, hl, hm, hmm, hx, hi⟩
    · subst h0
      exact ⟨(none, 0, 0), rfl, results_of ⟨fuel, hy⟩⟩
    · subst h0
      exact ⟨(some a, len, cap), rfl, results_of ⟨fuel, hy⟩⟩) hf
  obtain ⟨l, hl, hP⟩ := choose_list h2
  have hRn := h1.1
  refine ⟨l, ⟨by omega, ?_⟩, fun x hx => ?_, h3⟩
  · by_cases hn : n = 0
    · exact .inl hn
    · obtain ⟨b, o, x0, hA, hlt, _, _⟩ := h1.at_ (k := 0) (by omega)
      refine .inr ⟨b, o, hA, hlt, fun k y hk => ?_⟩
      have hkl := (List.getElem?_eq_some_iff.1 hk).1
      obtain ⟨b', o', r, hA', _, hr, hc⟩ := h1.at_ (k := k) (by omega)
      rw [hA] at hA'
      simp only [Option.some.injEq, Addr.mk.injEq, and_true] at hA'
      obtain ⟨rfl, rfl⟩ := hA'
      have c0 := hc 0 _ rfl
      rw [Nat.mul_one, Nat.add_zero] at c0
      exact ⟨_, _, _, c0, (hP k r y hr hk).1⟩
  · obtain ⟨k, hk⟩ := List.getElem?_of_mem hx
    have hkl := (List.getElem?_eq_some_iff.1 hk).1
    obtain ⟨a1, a2, a3⟩ := hP k _ x (List.getElem?_eq_getElem (by omega)) hk
    exact ⟨by rw [a1.1]; exact a3, fun y hy => (a2 y hy).1⟩
end Go.Proofs.Ytkpnkilpaokkcaa
