/- Results of slices of slices of int64: comparison, marks, rows that hold their marks. -/
import Derived.Test.YtgdmiddiaogpaaaGr
namespace Go.Proofs.Ytgdmiddiaogpaaa
open Go.RowKit Go.BigFrame
attribute [local go_sem] sub_cell sub_frozen drewN_setCell

/-- Nested rows of the call's own: the outer one v, the inner ones vs. -/
structure Nest (N : Nat) (wr : World) (v : Value) (m : Nat) (ls : List (List Int)) (vs : List Value) : Prop where
  out : wr.ownsRow N 40 1 v m vs
  grp : Groups wr N vs ls
section
variable {N m : Nat} {wr w' : World} {v : Value} {ls : List (List Int)} {vs : List Value}
theorem Nest.below (h : Nest N wr v m ls vs) (hb : Below wr.heap.size wr w') : Nest N w' v m ls vs := ⟨own_below h.out hb, h.grp.below hb⟩
theorem Nest.len (h : Nest N wr v m ls vs) : ls.length = m := by rw [← h.grp.len]; have := h.out.1; omega
/-- Something older is written to. -/
theorem Nest.kept {row : Option Nat} (h : Nest N wr v m ls vs) (hg : wr.grownBy w' row) (hr : ∀ g, row = some g → g < N) : Nest N w' v m ls vs := by
  refine ⟨World.ownsRow.kept h.out hg ?_, h.grp.kept hg fun k u hu => ?_⟩
  · cases e : v.ownBlock with
    | none => exact .inl rfl
    | some g => exact .inr (fun e2 => by have := (h.out.lt g e).1; have := hr g e2.symm; omega)
  · cases e : u.ownBlock with
    | none => exact .inl rfl
    | some g => exact .inr (fun e2 => by have := (h.grp.lt hu e).1; have := hr g e2.symm; omega)
theorem Nest.at_ {G c j : Nat} {l : List Int} (h : Nest N wr (.slice (some ⟨G, 0, none⟩) m c) m ls vs) (hj : ls[j]? = some l) : ∃ A cap, wr.cell? ⟨G, j, none⟩ = some (.slice A l.length cap) ∧ vs[j]? = some (.slice A l.length cap) ∧ wr.ownsRow N 2 1 (.slice A l.length cap) l.length (l.map (Value.int .i64)) := by
  obtain ⟨u, hu, ho⟩ := h.grp.get hj
  obtain ⟨A, cap, rfl⟩ := own_slice ho
  exact ⟨A, cap, own_cell h.out hu, hu, ho⟩
theorem Nest.at0 {A : Option Addr} {c j : Nat} (h : Nest N wr (.slice A m c) m ls vs) (hj : j < m) : ∃ G, A = some ⟨G, 0, none⟩ ∧ N ≤ G ∧ G < wr.heap.size := by
  obtain ⟨G, c', hv, h1, h2⟩ := h.out.form (by omega)
  simp only [Value.slice.injEq] at hv
  exact ⟨G, hv.1, h1, h2⟩
end
/-- What a function leaves that returns such rows and a code. -/
def NestPost (ls : List (List Int)) (code : Int) (w : World) (r : Ending) (w' : World) : Prop :=
  ∃ A c vs, r = .returned (.tuple #[.slice A ls.length c, .int .i64 code]) ∧ Nest w.heap.size w' (.slice A ls.length c) ls.length ls vs ∧ Below w.heap.size w w'
theorem NestPost.err {c : Int} {w w' : World} (hb : Below w.heap.size w w') : NestPost [] c w (.returned (.tuple #[.slice none 0 0, .int .i64 c])) w' :=
  ⟨none, 0, [], rfl, ⟨World.ownsRow_nil _ _ _ _, Groups.nil _ _⟩, hb⟩
theorem NestPost.mk_ {ls : List (List Int)} {code : Int} {w w' : World} {v : Value} {m : Nat} {vs : List Value} (hn : ls.length = m) (h : Nest w.heap.size w' v m ls vs) (hb : Below w.heap.size w w') : NestPost ls code w (.returned (.tuple #[v, .int .i64 code])) w' := by
  subst hn
  obtain ⟨A, c, rfl⟩ := own_slice h.out
  exact ⟨A, c, vs, rfl, h, hb⟩

/-- How many numbers stand before row j. -/
def psum (ls : List (List Int)) (j : Nat) : Nat := ((ls.take j).map List.length).sum
theorem psum_succ {ls : List (List Int)} {j : Nat} {l : List Int} (h : ls[j]? = some l) : psum ls (j + 1) = psum ls j + l.length := by
  rw [psum, psum, List.take_add_one, h, List.map_append, List.sum_append]; simp
theorem psum_le (ls : List (List Int)) (j : Nat) : psum ls j ≤ psum ls ls.length := by
  have : psum ls ls.length = psum ls j + ((ls.drop j).map List.length).sum := by
    rw [psum, psum, List.take_length, ← List.sum_append, ← List.map_append, List.take_append_drop]
  omega
/-- The rows, the first j of them marked from k0 on. -/
def mkTo (k0 : Int) (ls : List (List Int)) (j : Nat) : List (List Int) := (List.range ls.length).map fun i => if i < j then upN (k0 + psum ls i) (ls.getD i []).length else ls.getD i []
theorem mkTo_len (k0 : Int) (ls : List (List Int)) (j : Nat) : (mkTo k0 ls j).length = ls.length := by simp [mkTo]
theorem mkTo_get {k0 : Int} {ls : List (List Int)} {j i : Nat} {l : List Int} (h : ls[i]? = some l) : (mkTo k0 ls j)[i]? = some (if i < j then upN (k0 + psum ls i) l.length else l) := by
  have hi := (List.getElem?_eq_some_iff.1 h).1
  have hd : ls.getD i [] = l := by rw [List.getD_eq_getElem?_getD, h]; rfl
  rw [mkTo, List.getElem?_map, List.getElem?_range hi, Option.map_some, hd]
theorem mkTo_zero (k0 : Int) (ls : List (List Int)) : mkTo k0 ls 0 = ls := by
  apply List.ext_getElem?
  intro i
  cases h : ls[i]? with
  | none => rw [List.getElem?_eq_none (by rw [mkTo_len]; exact List.getElem?_eq_none_iff.1 h)]
  | some l => rw [mkTo_get h, if_neg (by omega)]
theorem mkTo_succ {k0 : Int} {ls : List (List Int)} {j : Nat} {l : List Int} (h : ls[j]? = some l) : (mkTo k0 ls j).set j (upN (k0 + psum ls j) l.length) = mkTo k0 ls (j + 1) := by
  have hj := (List.getElem?_eq_some_iff.1 h).1
  apply List.ext_getElem?
  intro i
  cases h2 : ls[i]? with
  | none =>
    have := List.getElem?_eq_none_iff.1 h2
    rw [List.getElem?_eq_none (by rw [List.length_set, mkTo_len]; omega), List.getElem?_eq_none (by rw [mkTo_len]; omega)]
  | some l2 =>
    rw [mkTo_get h2]
    by_cases e : j = i
    · subst e
      rw [h] at h2
      obtain rfl := Option.some.inj h2
      rw [List.getElem?_set_self (by rw [mkTo_len]; omega), if_pos (by omega)]
    · rw [List.getElem?_set_ne e, mkTo_get h2]
      congr 1
      by_cases c : i < j
      · rw [if_pos c, if_pos (by omega)]
      · rw [if_neg c, if_neg (by omega)]

set_option maxHeartbeats 2000000 in
theorem c_eqInt64SS (N N' m c d : Nat) (A B : Option Addr) (ls : List (List Int)) (vs us : List Value) (w : World) (ha : Nest N w (.slice A m c) m ls vs) (hb : Nest N' w (.slice B m d) m ls us) (hm : m ≤ 1048576) (hl : ∀ l ∈ ls, l.length ≤ 1048576) :
    Calls Try.prog 40 #[.slice A m c, .slice B m d] w fun r w' => r = .returned (.bool true) ∧ Below w.heap.size w w' := by
  have HL := Lib.hid ha.len
  have HS := Lib.hid hl
  clear hl
  go_enter Try.func40, Try.ntmps40
  go_wp2_with fail
  go_loopw [5] (fun i wr => ∃ k : Nat, k ≤ m ∧ i = .int .i64 k ∧ Below w.heap.size w wr) (fun i _ => m - (intOf i).toNat)
  case atStart => exact ⟨0, Nat.zero_le _, rfl, Below.refl _ _⟩
  case round =>
    obtain ⟨k, hk, rfl, hB⟩ := hrel
    have hz := hB.size
    by_cases hlt : k < m
    · obtain ⟨G, rfl, g1, g2⟩ := ha.at0 hlt
      obtain ⟨G', rfl, g3, g4⟩ := hb.at0 hlt
      have hx : ls[k]? = some (ls[k]'(by rw [HL.out]; exact hlt)) := List.getElem?_eq_getElem _
      generalize ls[k]'(by rw [HL.out]; exact hlt) = l at hx
      obtain ⟨Av, ca, c1, _, o1⟩ := (ha.below hB).at_ hx
      obtain ⟨Bv, cb, c2, _, o2⟩ := (hb.below hB).at_ hx
      have hln := HS.out _ (List.mem_of_getElem? hx)
      have HZA := Lib.hid (zs_ownN o1)
      have HZB := Lib.hid (zs_ownN o2)
      have i1 : (k : Int) < m := by omega
      have g5 : G < wr.heap.size := by omega
      have g6 : G' < wr.heap.size := by omega
      clear ha hb hx o1 o2
      go_wp2_with fail
      refine wp_region_below (by kernel_rfl) (by kernel_rfl) ?_
      repeat (go_big_quiet_step ((go_at_call 31; refine qBg (c_eqInt64S _ _ _ _ _ _ _ (HZA.out.later (Later.h _)) (HZB.out.later (Later.h _)) (by omega)) (by simp) ?_; intro w_ h_; first | exact h_ | exact h_.below | (subst h_; exact Below.refl _ _) | (subst h_; (repeat' (first | (with_reducible exact Below.refl _ _) | (with_reducible assumption) | (with_reducible refine below_drewN ?_ _) | (with_reducible refine Below.drew ?_) | (with_reducible refine Below.alloc ?_ ?_ _) | (with_reducible refine Below.setCell ?_ ?_ _) | go_size))) | (obtain ⟨n_, rfl⟩ := h_; (repeat' (first | (with_reducible exact Below.refl _ _) | (with_reducible assumption) | (with_reducible refine below_drewN ?_ _) | (with_reducible refine Below.drew ?_) | (with_reducible refine Below.alloc ?_ ?_ _) | (with_reducible refine Below.setCell ?_ ?_ _) | go_size))))))
      refine wpQuiet_nil ?_
      intro _ hw'
      obtain ⟨⟨w9, hb9⟩, hw''⟩ := hw'
      subst hw''
      have hB1 := hB.trans (hb9.mono hz)
      go_wp2_with fail
      go_roundw
      case rel => exact ⟨k + 1, by omega, by go_num, hB1⟩
      case measure => simp [intOf]; omega
    · obtain rfl : k = m := by omega
      go_wp2_with fail
      go_ret
      exact ⟨rfl, hB⟩
set_option maxHeartbeats 2000000 in
theorem c_markInt64SS (N m c : Nat) (A : Option Addr) (ls : List (List Int)) (vs : List Value) (w : World) (ha : Nest N w (.slice A m c) m ls vs) (hm : m ≤ 1048576) (hs : psum ls m ≤ 1048576) (hN : N ≤ w.heap.size) :
    Calls Try.prog 41 #[.slice A m c, .int .i64 1] w fun r w' => r = .returned (.int .i64 (1 + psum ls m)) ∧ Nest N w' (.slice A m c) m (mkTo 1 ls m) vs ∧ Below N w w' := by
  have HL := Lib.hid ha.len
  go_enter Try.func41, Try.ntmps41
  go_wp2_with fail
  go_loopw [1, 5] (fun q i wr => ∃ j p : Nat, j ≤ m ∧ i = .int .i64 j ∧ q = .int .i64 (1 + (p : Int)) ∧ p ≤ 1048576 ∧ Below N w wr ∧ Nest N wr (.slice A m c) m (mkTo 1 ls j) vs ∧ Hid (psum ls j = p)) (fun _ i _ => m - (intOf i).toNat)
  case atStart => exact ⟨0, 0, Nat.zero_le _, rfl, by simp, by omega, Below.refl _ _, by rw [mkTo_zero]; exact ha, rfl⟩
  case round =>
    obtain ⟨j, p, hj, rfl, rfl, hp, hB, hn, hps⟩ := hrel
    have hz := hB.size
    clear ha
    rename World => wo
    by_cases hlt : j < m
    · obtain ⟨G, rfl, g1, g2⟩ := hn.at0 hlt
      have hx : ls[j]? = some (ls[j]'(by rw [HL.out]; exact hlt)) := List.getElem?_eq_getElem _
      generalize ls[j]'(by rw [HL.out]; exact hlt) = l at hx
      have hx2 := mkTo_get (k0 := 1) (j := j) hx
      rw [if_neg (by omega)] at hx2
      obtain ⟨Av, ca, c1, hv, o1⟩ := hn.at_ hx2
      have hst := psum_succ hx
      have hle := psum_le ls (j + 1)
      rw [HL.out, hst, hps.out] at hle
      have HO := Lib.hid o1
      have HN := Lib.hid hn
      have HST := Lib.hid (hst.trans (by rw [hps.out]))
      have HMK := Lib.hid (mkTo_succ (k0 := 1) hx)
      rw [hps.out] at HMK
      have HV := Lib.hid hv
      have i1 : (j : Int) < m := by omega
      have hln : l.length ≤ 1048576 := by omega
      clear hn hx hx2 hv o1 hst hps
      go_wp2_with (go_at_call 32; refine (c_markInt64S N l.length ca Av l (1 + (p : Int)) _ rfl HO.out (by omega) (by omega) (by omega)).mono ?_; rintro r_ w2 ⟨rfl, y, mk⟩; have Y := Lib.hid y; have MK := Lib.hid mk; clear y mk)
      have hok : Hid (Nest N w2 (.slice (some ⟨G, 0, none⟩) m c) m (mkTo 1 ls (j + 1)) vs) := by
        refine ⟨World.ownsRow.kept HN.out.out MK.out (.inr fun e => own_kinds HO.out HN.out.out ints_ne e.symm), ?_⟩
        have h1 := HN.out.grp.put (l' := upN (1 + (p : Int)) l.length) HV.out MK.out (by rw [upN_len]; exact Y.out) (.inl rfl)
        rw [HMK.out] at h1
        have e : vs.set j (.slice Av l.length ca) = vs := by
          apply List.ext_getElem?
          intro i
          by_cases e : j = i
          · subst e; rw [List.getElem?_set_self (List.getElem?_eq_some_iff.1 HV.out).1, HV.out]
          · rw [List.getElem?_set_ne e]
        rwa [e] at h1
      have hbl : Below N w w2 := below_mark hB MK.out HO.out (Nat.le_refl _) (by omega)
      go_roundw
      case rel => exact ⟨j + 1, p + l.length, by omega, by go_num, by go_num, by omega, hbl, hok.out, HST⟩
      case measure => simp [intOf]; omega
    · obtain rfl : j = m := by omega
      go_wp2_with fail
      go_ret
      exact ⟨by rw [hps.out]; rfl, hn, hB⟩
set_option maxHeartbeats 2000000 in
theorem c_heldInt64SS (N m c : Nat) (A : Option Addr) (ls : List (List Int)) (vs : List Value) (w : World) (hl : ls.length = m) (ha : Nest N w (.slice A m c) m (mkTo 1 ls m) vs) (hm : m ≤ 1048576) (hs : psum ls m ≤ 1048576) :
    Calls Try.prog 42 #[.slice A m c, .int .i64 1] w fun r w' => r = .returned (.int .i64 (1 + psum ls m)) ∧ Below w.heap.size w w' := by
  have HL := Lib.hid hl
  clear hl
  go_enter Try.func42, Try.ntmps42
  go_wp2_with fail
  go_loopw [1, 5] (fun q i wr => ∃ j p : Nat, j ≤ m ∧ i = .int .i64 j ∧ q = .int .i64 (1 + (p : Int)) ∧ p ≤ 1048576 ∧ Below w.heap.size w wr ∧ Hid (psum ls j = p)) (fun _ i _ => m - (intOf i).toNat)
  case atStart => exact ⟨0, 0, Nat.zero_le _, rfl, by simp, by omega, Below.refl _ _, rfl⟩
  case round =>
    obtain ⟨j, p, hj, rfl, rfl, hp, hB, hps⟩ := hrel
    have hz := hB.size
    rename World => wo
    by_cases hlt : j < m
    · obtain ⟨G, rfl, g1, g2⟩ := ha.at0 hlt
      have hx : ls[j]? = some (ls[j]'(by rw [HL.out]; exact hlt)) := List.getElem?_eq_getElem _
      generalize ls[j]'(by rw [HL.out]; exact hlt) = l at hx
      have hx2 := mkTo_get (k0 := 1) (j := m) hx
      rw [if_pos hlt, hps.out] at hx2
      obtain ⟨Av, ca, c1, hv, o1⟩ := (ha.below hB).at_ hx2
      rw [upN_len] at c1 o1
      have hst := psum_succ hx
      have hle := psum_le ls (j + 1)
      rw [HL.out, hst, hps.out] at hle
      have HZ := Lib.hid (zs_ownN o1)
      have HST := Lib.hid (hst.trans (by rw [hps.out]))
      have i1 : (j : Int) < m := by omega
      have hln : l.length ≤ 1048576 := by omega
      have g3 : G < wo.heap.size := by omega
      clear ha hx hx2 hv o1 hst hps
      go_wp2_with (go_at_call 33; refine (c_heldInt64S _ _ _ _ _ HZ.out (by omega) (by omega) (by omega)).mono ?_; rintro r_ w2 ⟨rfl, hb2⟩; have HB2 := Lib.hid (hB.trans (hb2.mono hz)); clear hb2)
      go_roundw
      case rel => exact ⟨j + 1, p + l.length, by omega, by go_num, by go_num, by omega, HB2.out, HST⟩
      case measure => simp [intOf]; omega
    · obtain rfl : j = m := by omega
      go_wp2_with fail
      go_ret
      exact ⟨by rw [hps.out]; rfl, hB⟩
end Go.Proofs.Ytgdmiddiaogpaaa
