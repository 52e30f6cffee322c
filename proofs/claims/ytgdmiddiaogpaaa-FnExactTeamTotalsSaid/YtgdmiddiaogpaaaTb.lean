/- Tables of points or prizes: what they are, sums over places. -/
import Derived.Test.YtgdmiddiaogpaaaPl
import Derived.Test.YtgdmiddiaogpaaaGr
namespace Go.Proofs.Ytgdmiddiaogpaaa
open Go.RowKit Go.BigFrame
attribute [local go_sem] sub_cell sub_frozen drewN_setCell

def tabB (t : List Int) : Bool := (t.all fun z => betw z 0 100000) && decide (t.length ≤ 20)
theorem tab_bad {t : List Int} {k : Nat} {z : Int} (hz : t[k]? = some z) (h : betw z 0 100000 = false) : tabB t = false := by
  simp only [tabB, Bool.and_eq_false_iff, List.all_eq_false]
  exact .inl ⟨z, List.mem_of_getElem? hz, by simp [h]⟩
theorem tab_take {t : List Int} {k : Nat} {z : Int} (hz : t[k]? = some z) (h : (t.take k).all (fun z => betw z 0 100000) = true) (h2 : betw z 0 100000 = true) : (t.take (k + 1)).all (fun z => betw z 0 100000) = true := by
  rw [List.take_add_one, hz, List.all_append, h]
  simp [h2]
theorem tab_end {t : List Int} {n : Nat} (hl : t.length = n) (h : (t.take n).all (fun z => betw z 0 100000) = true) : tabB t = decide ((n : Int) ≤ 20) := by
  rw [List.take_of_length_le (by omega)] at h
  rw [tabB, h, hl]
  simp; omega
theorem tab_at {t : List Int} {k : Nat} {z : Int} (h : tabB t = true) (hz : t[k]? = some z) : 0 ≤ z ∧ z ≤ 100000 := by
  simp only [tabB, Bool.and_eq_true, List.all_eq_true] at h
  exact betw_true (h.1 z (List.mem_of_getElem? hz))
theorem tab_len {t : List Int} (h : tabB t = true) : t.length ≤ 20 := by
  simp only [tabB, Bool.and_eq_true, decide_eq_true_eq] at h
  exact h.2
/-- The sum from one place to before another one. -/
def sumT (t : List Int) (a b : Nat) : Int := ((t.drop a).take (b - a)).sum
theorem sumT_nil (t : List Int) (a : Nat) : sumT t a a = 0 := by simp [sumT]
theorem sumT_in {t : List Int} {a b : Nat} {z : Int} (hab : a ≤ b) (hz : t[b]? = some z) : sumT t a (b + 1) = sumT t a b + z := by
  have : (t.drop a)[b - a]? = some z := by rw [List.getElem?_drop]; rw [show a + (b - a) = b by omega]; exact hz
  rw [sumT, sumT, show b + 1 - a = (b - a) + 1 by omega, List.take_add_one, this, List.sum_append]
  simp
theorem sumT_out {t : List Int} {a b : Nat} (hab : a ≤ b) (hz : t.length ≤ b) : sumT t a (b + 1) = sumT t a b := by
  have : (t.drop a)[b - a]? = none := by rw [List.getElem?_drop]; exact List.getElem?_eq_none (by omega)
  rw [sumT, sumT, show b + 1 - a = (b - a) + 1 by omega, List.take_add_one, this]
  simp
theorem sumT_past {t : List Int} {a b q : Nat} (hab : a ≤ b) (hz : t.length ≤ b) : sumT t a (b + q) = sumT t a b := by
  induction q with
  | zero => rfl
  | succ q ih => rw [← Nat.add_assoc, sumT_out (by omega) (by omega), ih]
theorem sum_bd {l : List Int} {m : Nat} (h : ∀ z ∈ l, 0 ≤ z ∧ z ≤ 100000) (hl : l.length ≤ m) : 0 ≤ l.sum ∧ l.sum ≤ 100000 * (m : Int) := by
  induction l generalizing m with
  | nil => simp; omega
  | cons a l ih =>
    simp only [List.length_cons] at hl
    obtain ⟨m, rfl⟩ : ∃ m', m = m' + 1 := ⟨m - 1, by omega⟩
    have h1 := h a (by simp)
    have h2 := ih (m := m) (fun z hz => h z (by simp [hz])) (by omega)
    rw [List.sum_cons]
    omega
theorem sumT_bd {t : List Int} (h : tabB t = true) (a b : Nat) : 0 ≤ sumT t a b ∧ sumT t a b ≤ 2000000 := by
  have h1 := tab_len h
  have := sum_bd (l := (t.drop a).take (b - a)) (m := 20) (fun z hz => by
    obtain ⟨k, hk⟩ := List.getElem?_of_mem (List.mem_of_mem_drop (List.mem_of_mem_take hz))
    exact tab_at h hk) (by rw [List.length_take, List.length_drop]; omega)
  exact ⟨this.1, by have := this.2; simpa [sumT] using this⟩

set_option maxHeartbeats 2000000 in
theorem c_l22Table (A : Option Addr) (n c : Nat) (t : List Int) (r : Bool) (hr : tabB t = r) (w : World) (ha : Zs w A n t) (hn : n ≤ 1048576) :
    Calls Try.prog 72 #[.slice A n c] w fun e w' => e = .returned (.bool r) ∧ Below w.heap.size w w' := by
  have HL := Lib.hid ha.1
  have HA := Lib.hid ha
  have HR := Lib.hid hr
  clear ha hr
  go_enter Try.func72, Try.ntmps72
  go_wp2_with fail
  go_loopw [3] (fun i wr => ∃ k : Nat, k ≤ n ∧ i = .int .i64 k ∧ Below w.heap.size w wr ∧ Hid ((t.take k).all (fun z => betw z 0 100000) = true)) (fun i _ => n - (intOf i).toNat)
  case atStart => exact ⟨0, Nat.zero_le _, rfl, Below.refl _ _, rfl⟩
  case round =>
    obtain ⟨k, hk, rfl, hB, hok⟩ := hrel
    by_cases hlt : k < n
    · obtain ⟨b, o, z, rfl, hb1, hb2, hx, c0⟩ := z_at HA.out hB hlt
      cases hz : betw z 0 100000
      · have HX := Lib.hid (tab_bad hx hz)
        clear hx
        go_wp2_with (go_at_call 68; refine (c_l00In _ _ _ _ (by assumption) _).mono ?_; rintro e w' ⟨rfl, rfl⟩)
        go_ret
        exact ⟨by rw [← HR.out, HX.out]; rfl, hB⟩
      · have HX := Lib.hid (tab_take hx hok.out hz)
        clear hx
        go_wp2_with (go_at_call 68; refine (c_l00In _ _ _ _ (by assumption) _).mono ?_; rintro e w' ⟨rfl, rfl⟩)
        go_roundw
        case rel => exact ⟨k + 1, by omega, by go_num, hB, HX⟩
        case measure => simp [intOf]; omega
    · obtain rfl : k = n := by omega
      have HE := Lib.hid (tab_end HL.out hok.out)
      go_wp2_with fail
      go_ret
      exact ⟨by rw [← HR.out, HE.out]; rfl, hB⟩
set_option maxHeartbeats 2000000 in
theorem c_isPointTable (A : Option Addr) (n c : Nat) (t : List Int) (r : Bool) (hr : tabB t = r) (w : World) (ha : Zs w A n t) (hn : n ≤ 1048576) :
    Calls Try.prog 74 #[.slice A n c] w fun e w' => e = .returned (.bool r) ∧ Below w.heap.size w w' := by
  have HL := Lib.hid ha.1
  have HA := Lib.hid ha
  have HR := Lib.hid hr
  clear ha hr
  go_enter Try.func74, Try.ntmps74
  go_wp2_with fail
  go_loopw [7] (fun i wr => ∃ k : Nat, k ≤ n ∧ i = .int .i64 k ∧ Below w.heap.size w wr ∧ Hid ((t.take k).all (fun z => betw z 0 100000) = true)) (fun i _ => n - (intOf i).toNat)
  case atStart => exact ⟨0, Nat.zero_le _, rfl, Below.refl _ _, rfl⟩
  case round =>
    obtain ⟨k, hk, rfl, hB, hok⟩ := hrel
    by_cases hlt : k < n
    · obtain ⟨b, o, z, rfl, hb1, hb2, hx, c0⟩ := z_at HA.out hB hlt
      cases hz : betw z 0 100000
      · have HX := Lib.hid (tab_bad hx hz)
        clear hx
        go_wp2_with (go_at_call 60; refine (c_between _ _ _ _ (by assumption) _).mono ?_; rintro e w' ⟨rfl, rfl⟩)
        go_ret
        exact ⟨by rw [← HR.out, HX.out]; rfl, hB⟩
      · have HX := Lib.hid (tab_take hx hok.out hz)
        clear hx
        go_wp2_with (go_at_call 60; refine (c_between _ _ _ _ (by assumption) _).mono ?_; rintro e w' ⟨rfl, rfl⟩)
        go_roundw
        case rel => exact ⟨k + 1, by omega, by go_num, hB, HX⟩
        case measure => simp [intOf]; omega
    · obtain rfl : k = n := by omega
      have HE := Lib.hid (tab_end HL.out hok.out)
      go_wp2_with fail
      go_ret
      exact ⟨by rw [← HR.out, HE.out]; rfl, hB⟩
set_option maxHeartbeats 2000000 in
theorem c_l22Sum (A : Option Addr) (n c a b : Nat) (t : List Int) (ht : tabB t = true) (hab : a ≤ b) (hb : b ≤ 1048576) (w : World) (ha : Zs w A n t) :
    Calls Try.prog 73 #[.slice A n c, .int .i64 (a : Int), .int .i64 (b : Int)] w fun e w' => e = .returned (.int .i64 (sumT t a b)) ∧ Below w.heap.size w w' := by
  have HL := Lib.hid ha.1
  have HA := Lib.hid ha
  have HT := Lib.hid ht
  have hn20 := tab_len ht
  rw [ha.1] at hn20
  clear ha ht
  go_enter Try.func73, Try.ntmps73
  go_wp2_with fail
  go_loopw [7, 8] (fun s i wr => ∃ (k : Nat) (z : Int), k ≤ b ∧ a ≤ k ∧ (k ≤ n ∨ k = a) ∧ i = .int .i64 k ∧ s = .int .i64 z ∧ 0 ≤ z ∧ z ≤ 2000000 ∧ Below w.heap.size w wr ∧ Hid (sumT t a k = z)) (fun _ i _ => b - (intOf i).toNat)
  case atStart => exact ⟨a, 0, hab, Nat.le_refl _, .inr rfl, rfl, rfl, by omega, by omega, Below.refl _ _, sumT_nil t a⟩
  case round =>
    obtain ⟨k, z, hk, hak, hkn, rfl, rfl, hz0, hz1, hB, hs⟩ := hrel
    by_cases hlt : k < b
    · by_cases hlt2 : k < n
      · obtain ⟨bb, o, x, rfl, hb1, hb2, hx, c0⟩ := z_at HA.out hB hlt2
        have hbd := tab_at HT.out hx
        have HS := Lib.hid ((sumT_in hak hx).trans (by rw [hs.out]))
        have hbd2 := sumT_bd HT.out a (k + 1)
        rw [HS.out] at hbd2
        have i1 : (k : Int) < b := by omega
        have i2 : (k : Int) < n := by omega
        clear hx hs
        go_wp2_with fail
        go_roundw
        case rel => exact ⟨k + 1, z + x, by omega, by omega, .inl (by omega), by go_num, rfl, hbd2.1, hbd2.2, hB, HS⟩
        case measure => simp [intOf]; omega
      · have HS : Hid (sumT t a b = z) := by
          show _ = _
          have := sumT_past (t := t) (a := a) (b := k) (q := b - k) hak (by rw [HL.out]; omega)
          rw [show k + (b - k) = b by omega] at this
          rw [this, hs.out]
        have i1 : (k : Int) < b := by omega
        have i2 : ¬ (k : Int) < n := by omega
        clear hs
        go_wp2_with fail
        go_ret
        exact ⟨by rw [HS.out]; rfl, hB⟩
    · obtain rfl : k = b := by omega
      have i1 : ¬ (k : Int) < k := by omega
      go_wp2_with fail
      go_ret
      exact ⟨by rw [hs.out]; rfl, hB⟩
set_option maxHeartbeats 2000000 in
theorem c_total (A B : Option Addr) (n c p m d : Nat) (t : List Int) (ht : tabB t = true) (hp : p ≤ 1048576) (hm : m ≤ 1048576) (w : World) (ha : Zs w A n t) :
    Calls Try.prog 75 #[.agg #[.int .i64 ((p : Int) + 1), .slice B m d], .slice A n c] w fun e w' => e = .returned (.int .i64 (sumT t p (p + m))) ∧ Below w.heap.size w w' := by
  have HL := Lib.hid ha.1
  have HA := Lib.hid ha
  have HT := Lib.hid ht
  have hn20 := tab_len ht
  rw [ha.1] at hn20
  clear ha ht
  go_enter Try.func75, Try.ntmps75
  go_wp2_with fail
  go_loopw [5, 11] (fun s i wr => ∃ (k : Nat) (z : Int), k ≤ m ∧ i = .int .i64 k ∧ s = .int .i64 z ∧ 0 ≤ z ∧ z ≤ 2000000 ∧ Below w.heap.size w wr ∧ Hid (wr.heap[w.heap.size]? = some (.cells #[.int .i64 ((p : Int) + 1), .slice B m d] 84 (0, 0))) ∧ Hid (sumT t p (p + k) = z)) (fun _ i _ => m - (intOf i).toNat)
  case atStart => exact ⟨0, 0, Nat.zero_le _, rfl, rfl, by omega, by omega, by (repeat' (first | (with_reducible exact Below.refl _ _) | (with_reducible assumption) | (with_reducible refine below_drewN ?_ _) | (with_reducible refine Below.drew ?_) | (with_reducible refine Below.alloc ?_ ?_ _) | (with_reducible refine Below.setCell ?_ ?_ _) | go_size)), heap_alloc_new w _, sumT_nil t p⟩
  case round =>
    obtain ⟨k, z, hk, rfl, rfl, hz0, hz1, hB, hL, hs⟩ := hrel
    have l0 : ∀ wr : World, wr.heap[w.heap.size]? = some (.cells #[.int .i64 ((p : Int) + 1), .slice B m d] 84 (0, 0)) → wr.cell? ⟨w.heap.size, 0, none⟩ = some (.int .i64 ((p : Int) + 1)) := fun wr h => by simp [World.cell?, h]
    have l1 := l0 _ hL.out
    have hLl := lt_of_block hL.out
    clear l0
    by_cases hlt : k < m
    · by_cases hlt2 : p + k < n
      · obtain ⟨bb, o, x, rfl, hb1, hb2, hx, c0⟩ := z_at HA.out hB hlt2
        have hbd := tab_at HT.out hx
        have HS := Lib.hid ((sumT_in (Nat.le_add_right p k) hx).trans (by rw [hs.out]))
        have hbd2 := sumT_bd HT.out p (p + k + 1)
        rw [HS.out] at hbd2
        have i1 : (k : Int) < m := by omega
        have i2 : (p : Int) + k < n := by omega
        clear hx hs
        go_wp2_with fail
        go_roundw
        case rel => exact ⟨k + 1, z + x, by omega, by go_num, rfl, hbd2.1, hbd2.2, hB, hL, HS⟩
        case measure => simp [intOf]; omega
      · have HS : Hid (sumT t p (p + (k + 1)) = z) := (sumT_out (Nat.le_add_right p k) (by rw [HL.out]; omega)).trans hs.out
        have i1 : (k : Int) < m := by omega
        have i2 : ¬ (p : Int) + k < n := by omega
        clear hs
        go_wp2_with fail
        go_roundw
        case rel => exact ⟨k + 1, z, by omega, by go_num, rfl, hz0, hz1, hB, hL, HS⟩
        case measure => simp [intOf]; omega
    · obtain rfl : k = m := by omega
      go_wp2_with fail
      go_ret
      exact ⟨by rw [hs.out]; rfl, hB⟩

/-- Lists made group by group. -/
def perG {β : Type} (F : Nat → List Nat → List β) (gs : List (List Nat)) : List β := (gs.zipIdx.map fun p => F p.2 p.1).flatten
theorem flat_atG {β : Type} {hs : List (List β)} {h : List β} {j q : Nat} {x : β} (hj : hs[j]? = some h) (hq : h[q]? = some x) : hs.flatten[(hs.take j).flatten.length + q]? = some x := by
  have hjl := (List.getElem?_eq_some_iff.1 hj).1
  have hql := (List.getElem?_eq_some_iff.1 hq).1
  have key : hs.flatten = (hs.take j).flatten ++ (h ++ (hs.drop (j + 1)).flatten) := by
    have e : hs = hs.take j ++ h :: hs.drop (j + 1) := by
      conv => lhs; rw [← List.take_append_drop j hs]
      rw [List.drop_eq_getElem_cons hjl, (List.getElem?_eq_some_iff.1 hj).2]
    conv => lhs; rw [e]
    rw [List.flatten_append, List.flatten_cons]
  rw [key, List.getElem?_append_right (by omega), List.getElem?_append_left (by omega)]
  simpa using hq
theorem perG_at {β : Type} {F : Nat → List Nat → List β} (hF : ∀ j g, (F j g).length = g.length) {gs : List (List Nat)} {g : List Nat} {j q : Nat} {x : β} (hj : gs[j]? = some g) (hq : (F j g)[q]? = some x) : (perG F gs)[plc gs j + q]? = some x := by
  have h1 : (gs.zipIdx.map fun p => F p.2 p.1)[j]? = some (F j g) := by simp [hj]
  have h2 := flat_atG h1 hq
  have h3 : ((gs.zipIdx.map fun p => F p.2 p.1).take j).flatten.length = plc gs j := by
    rw [plc, List.length_flatten, List.length_flatten]
    congr 1
    apply List.ext_getElem?
    intro i
    simp only [List.getElem?_map, List.getElem?_take]
    split
    · simp only [List.getElem?_zipIdx, Option.map_map]
      cases gs[i]? with
      | none => rfl
      | some y => simp [hF]
    · rfl
  rw [h3] at h2
  exact h2
theorem perG_len {β : Type} {F : Nat → List Nat → List β} (hF : ∀ j g, (F j g).length = g.length) (gs : List (List Nat)) : (perG F gs).length = gs.flatten.length := by
  rw [perG, List.length_flatten, List.length_flatten]
  congr 1
  apply List.ext_getElem?
  intro i
  simp only [List.getElem?_map, List.getElem?_zipIdx, Option.map_map]
  cases gs[i]? with
  | none => rfl
  | some y => simp [hF]
end Go.Proofs.Ytgdmiddiaogpaaa
