/- Contracts: the minutes of some drills. -/
import Derived.Test.YtnjmjopbeojfoaaDr2
import Derived.Test.YtnjmjopbeojfoaaIr
namespace Go.Proofs.Ytnjmjopbeojfoaa
open Go.RowKit Go.BigFrame
attribute [local go_sem] sub_cell sub_frozen drewN_setCell

def miAt (l : List TDrill) (i : Int) : Int := match l[i.toNat]? with | some x => x.2.2 | none => 0
def minS (l : List TDrill) (z : List Int) : Int := (z.map (miAt l)).sum
/-- All numbers are indices of a list. -/
def IdxIn (n : Nat) (z : List Int) : Prop := ∀ x ∈ z, (0 : Int) ≤ x ∧ x < n
theorem idxIn_of {n : Nat} {z : List Int} (h : risesZ 0 ((n : Int) - 1) z = true) : IdxIn n z := fun x hx => by
  obtain ⟨k, hk⟩ := List.getElem?_of_mem hx
  have := risesZ_bd h hk
  omega
theorem miAt_at {l : List TDrill} {q : Nat} {nm ls : ByteArray} {mi : Int} (h : l[q]? = some (nm, ls, mi)) : miAt l (q : Int) = mi := by simp [miAt, h]
theorem okDr_mi {x : TDrill} (h : okDr x = true) : 1 ≤ x.2.2 ∧ x.2.2 ≤ 600 := by
  simp only [okDr, Bool.and_eq_true] at h
  exact betw_true h.2.2.2.2
theorem drs_ok {l : List TDrill} (h : drsB l = true) : l.length ≤ 10 ∧ ∀ x ∈ l, okDr x = true := by
  simp only [drsB, Bool.and_eq_true, decide_eq_true_eq] at h
  exact ⟨h.2, fun x hx => listOk_mem h.1 hx⟩
theorem miAt_bd {l : List TDrill} (h : drsB l = true) (i : Int) : 0 ≤ miAt l i ∧ miAt l i ≤ 600 := by
  unfold miAt
  split
  · rename_i x hx
    have := okDr_mi ((drs_ok h).2 x (List.mem_of_getElem? hx))
    omega
  · omega
theorem minS_step {l : List TDrill} {z : List Int} {k : Nat} {x : Int} (h : z[k]? = some x) : minS l (z.take (k + 1)) = minS l (z.take k) + miAt l x := by
  simp [minS, List.take_add_one, h]
theorem minS_bd {l : List TDrill} (h : drsB l = true) (z : List Int) : 0 ≤ minS l z ∧ minS l z ≤ 600 * z.length := by
  induction z with
  | nil => simp [minS]
  | cons a z ih =>
    have := miAt_bd h a
    simp only [minS, List.map_cons, List.sum_cons, List.length_cons] at *
    omega

set_option maxHeartbeats 2000000 in
theorem c_l21Minutes (A B : Option Addr) (n c m d : Nat) (l : List TDrill) (z : List Int) (w : World) (ha : Sl drillC w w.heap.size 3 A n l) (hb : Zs w B m z) (hok : drsB l = true) (hz : IdxIn n z) (hm : m ≤ 1048576) (hn : n ≤ 1048576) :
    Calls Try.prog 52 #[.slice A n c, .slice B m d] w fun e w' => e = .returned (.int .i64 (minS l z)) ∧ w = w' := by
  have HL := Lib.hid hb.1
  have HA := Lib.hid ha
  have HB := Lib.hid hb
  have HZ := Lib.hid hz
  have HOK := Lib.hid hok
  clear ha hb hz hok
  go_enter Try.func52, Try.ntmps52
  go_wp2_with fail
  go_loop [5, 6] (fun s i => ∃ k : Nat, ∃ v : Int, k ≤ m ∧ i = .int .i64 k ∧ s = .int .i64 v ∧ 0 ≤ v ∧ v ≤ 600 * k ∧ Hid (minS l (z.take k) = v)) (fun _ i => m - (intOf i).toNat)
  case atStart => exact ⟨0, 0, Nat.zero_le _, rfl, rfl, by omega, by omega, by show minS l _ = 0; simp [minS]⟩
  case round =>
    obtain ⟨k, v, hk, rfl, rfl, hv0, hv1, hv⟩ := hrel
    by_cases hlt : k < m
    · obtain ⟨b, o, x, rfl, hb1, hb2, hx, c0⟩ := z_at HB.out (Below.refl _ _) hlt
      obtain ⟨hx0, hx1⟩ := HZ.out x (List.mem_of_getElem? hx)
      obtain ⟨q, rfl⟩ : ∃ q : Nat, x = (q : Int) := ⟨x.toNat, by omega⟩
      have hqn : q < n := by omega
      obtain ⟨b', o', nm, ls, mi, rfl, hb1', hb2', hy, d0, d1, d2⟩ := drill_at HA.out (Below.refl _ _) hqn
      have hst := minS_step (l := l) hx
      rw [miAt_at hy, hv.out] at hst
      have hbd := okDr_mi ((drs_ok HOK.out).2 _ (List.mem_of_getElem? hy))
      have hb3 : 1 ≤ mi := hbd.1
      have hb4 : mi ≤ 600 := hbd.2
      have HST := Lib.hid hst
      clear hx hy hst hbd
      go_wp2_with fail
      go_round
      case rel => exact ⟨k + 1, v + mi, by omega, by go_num, rfl, by omega, by omega, HST.out⟩
      case measure => simp [intOf]; omega
    · obtain rfl : k = m := by omega
      have h1 := hv.out
      rw [List.take_of_length_le (by rw [HL.out]; omega)] at h1
      have H1 := Lib.hid h1
      clear h1 hv
      go_wp2_with fail
      go_ret
      exact ⟨by rw [H1.out]; rfl, rfl⟩

set_option maxHeartbeats 2000000 in
theorem c_minutesOf (A B : Option Addr) (n c m d : Nat) (l : List TDrill) (z : List Int) (w : World) (ha : Sl drillC w w.heap.size 3 A n l) (hb : Zs w B m z) (hok : drsB l = true) (hz : IdxIn n z) (hm : m ≤ 1048576) (hn : n ≤ 1048576) :
    Calls Try.prog 54 #[.slice A n c, .slice B m d] w fun e w' => e = .returned (.int .i64 (minS l z)) ∧ w = w' := by
  have HL := Lib.hid hb.1
  have HA := Lib.hid ha
  have HB := Lib.hid hb
  have HZ := Lib.hid hz
  have HOK := Lib.hid hok
  clear ha hb hz hok
  go_enter Try.func54, Try.ntmps54
  go_wp2_with fail
  go_loop [5, 10] (fun s i => ∃ k : Nat, ∃ v : Int, k ≤ m ∧ i = .int .i64 k ∧ s = .int .i64 v ∧ 0 ≤ v ∧ v ≤ 600 * k ∧ Hid (minS l (z.take k) = v)) (fun _ i => m - (intOf i).toNat)
  case atStart => exact ⟨0, 0, Nat.zero_le _, rfl, rfl, by omega, by omega, by show minS l _ = 0; simp [minS]⟩
  case round =>
    obtain ⟨k, v, hk, rfl, rfl, hv0, hv1, hv⟩ := hrel
    by_cases hlt : k < m
    · obtain ⟨b, o, x, rfl, hb1, hb2, hx, c0⟩ := z_at HB.out (Below.refl _ _) hlt
      obtain ⟨hx0, hx1⟩ := HZ.out x (List.mem_of_getElem? hx)
      obtain ⟨q, rfl⟩ : ∃ q : Nat, x = (q : Int) := ⟨x.toNat, by omega⟩
      have hqn : q < n := by omega
      obtain ⟨b', o', nm, ls, mi, rfl, hb1', hb2', hy, d0, d1, d2⟩ := drill_at HA.out (Below.refl _ _) hqn
      have hst := minS_step (l := l) hx
      rw [miAt_at hy, hv.out] at hst
      have hbd := okDr_mi ((drs_ok HOK.out).2 _ (List.mem_of_getElem? hy))
      have hb3 : 1 ≤ mi := hbd.1
      have hb4 : mi ≤ 600 := hbd.2
      have HST := Lib.hid hst
      clear hx hy hst hbd
      go_wp2_with fail
      go_round
      case rel => exact ⟨k + 1, v + mi, by omega, by go_num, rfl, by omega, by omega, HST.out⟩
      case measure => simp [intOf]; omega
    · obtain rfl : k = m := by omega
      have h1 := hv.out
      rw [List.take_of_length_le (by rw [HL.out]; omega)] at h1
      have H1 := Lib.hid h1
      clear h1 hv
      go_wp2_with fail
      go_ret
      exact ⟨by rw [H1.out]; rfl, rfl⟩

/-- What MinutesOf says. -/
def moC (l : List TDrill) (z : List Int) : Int := if drsB l then (if risesZ 0 ((l.length : Int) - 1) z then 0 else 2) else 1
def moA (l : List TDrill) (z : List Int) : Int := if drsB l && risesZ 0 ((l.length : Int) - 1) z then minS l z else 0
set_option maxHeartbeats 400000 in
theorem c_l21Some (A B : Option Addr) (n c m d : Nat) (z : List Int) (r : Bool) (h : risesZ 0 ((n : Int) - 1) z = r) (w : World) (hb : Zs w B m z) (hm : m ≤ 1048576) (hn : n ≤ 1048576) :
    Calls Try.prog 51 #[.slice A n c, .slice B m d] w fun e w' => e = .returned (.bool r) ∧ Draws w w' := by
  have C := Lib.hid (c_l00Rises B m d z 0 ((n : Int) - 1) r h w hb hm)
  clear h hb
  go_enter Try.func51, Try.ntmps51
  go_wp2_with (go_at_call 71; refine C.out.mono ?_; rintro r_ w1 ⟨rfl, nd, rfl⟩)
  go_ret
  exact ⟨rfl, draws_N _ _⟩
set_option maxHeartbeats 1000000 in
theorem c_sMinutesOf (A B : Option Addr) (n c m d : Nat) (l : List TDrill) (z : List Int) (w : World) (ha : Sl drillC w w.heap.size 3 A n l) (hb : Zs w B m z) (hsz : DrSz l) (hm : m ≤ 1048576) (hn : n ≤ 1048576) (hc : n ≤ c) :
    Calls Try.prog 25 #[.slice A n c, .slice B m d] w fun e w' => e = .returned (.tuple #[.int .i64 (moA l z), .int .i64 (moC l z)]) ∧ Below w.heap.size w w' := by
  have hl := ha.1
  unfold moA moC
  rw [hl]
  cases g : drsB l
  · have C := Lib.hid (c_l21Ok A n c l _ g w ha hsz hn hc)
    clear g ha hb hsz hl
    go_enter Try.func25, Try.ntmps25
    go_wp2_with (go_at_call 49; refine C.out.mono ?_; rintro r_ w1 ⟨rfl, hb1⟩)
    go_returns
    exact ⟨rfl, hb1⟩
  · have C := Lib.hid (c_l21Ok A n c l _ g w ha hsz hn hc)
    cases g2 : risesZ 0 ((n : Int) - 1) z
    · have C2 := Lib.hid (fun (W : World) (hW : Below w.heap.size w W) => c_l21Some A B n c m d z _ g2 W (hb.later hW) hm hn)
      clear g g2 ha hb hsz hl
      go_enter Try.func25, Try.ntmps25
      go_wp2_with (first | (go_at_call 49; refine C.out.mono ?_; rintro r_ w1 ⟨rfl, hb1⟩) | (go_at_call 51; refine (C2.out _ hb1).mono ?_; rintro r_ w2 ⟨rfl, nd, rfl⟩))
      go_returns
      exact ⟨rfl, below_drewN hb1 _⟩
    · have C2 := Lib.hid (fun (W : World) (hW : Below w.heap.size w W) => c_l21Some A B n c m d z _ g2 W (hb.later hW) hm hn)
      have C3 := Lib.hid (fun (W : World) (hW : Below w.heap.size w W) => c_l21Minutes A B n c m d l z W (ha.later hW) (hb.later hW) g (idxIn_of g2) hm hn)
      clear g g2 ha hb hsz hl
      go_enter Try.func25, Try.ntmps25
      go_wp2_with (first | (go_at_call 49; refine C.out.mono ?_; rintro r_ w1 ⟨rfl, hb1⟩) | (go_at_call 51; refine (C2.out _ hb1).mono ?_; rintro r_ w2 ⟨rfl, nd, rfl⟩; have hb2 := below_drewN hb1 nd) | (go_at_call 52; refine (C3.out _ hb2).mono ?_; rintro r_ w2 ⟨rfl, rfl⟩))
      go_returns
      exact ⟨rfl, hb2⟩
set_option maxHeartbeats 1000000 in
theorem c_iMinutesOf (A B : Option Addr) (n c m d : Nat) (l : List TDrill) (z : List Int) (w : World) (ha : Sl drillC w w.heap.size 3 A n l) (hb : Zs w B m z) (hsz : DrSz l) (hm : m ≤ 1048576) (hn : n ≤ 1048576) :
    Calls Try.prog 26 #[.slice A n c, .slice B m d] w fun e w' => e = .returned (.tuple #[.int .i64 (moA l z), .int .i64 (moC l z)]) ∧ Below w.heap.size w w' := by
  have hl := ha.1
  unfold moA moC
  rw [hl]
  cases g : drsB l
  · have C := Lib.hid (c_iValidDrills A n c l _ g w ha hsz hn)
    clear g ha hb hsz hl
    go_enter Try.func26, Try.ntmps26
    go_wp2_with (go_at_call 23; refine C.out.mono ?_; rintro r_ w1 ⟨rfl, hb1⟩)
    go_returns
    exact ⟨rfl, hb1⟩
  · have C := Lib.hid (c_iValidDrills A n c l _ g w ha hsz hn)
    cases g2 : risesZ 0 ((n : Int) - 1) z
    · have C2 := Lib.hid (fun (W : World) (hW : Below w.heap.size w W) => c_areIndices B m d n z _ g2 W (hb.later hW) hm hn)
      clear g g2 ha hb hsz hl
      go_enter Try.func26, Try.ntmps26
      go_wp2_with (first | (go_at_call 23; refine C.out.mono ?_; rintro r_ w1 ⟨rfl, hb1⟩) | (go_at_call 53; refine (C2.out _ hb1).mono ?_; rintro r_ w2 ⟨rfl, rfl⟩))
      go_returns
      exact ⟨rfl, hb1⟩
    · have C2 := Lib.hid (fun (W : World) (hW : Below w.heap.size w W) => c_areIndices B m d n z _ g2 W (hb.later hW) hm hn)
      have C3 := Lib.hid (fun (W : World) (hW : Below w.heap.size w W) => c_minutesOf A B n c m d l z W (ha.later hW) (hb.later hW) g (idxIn_of g2) hm hn)
      clear g g2 ha hb hsz hl
      go_enter Try.func26, Try.ntmps26
      go_wp2_with (first | (go_at_call 23; refine C.out.mono ?_; rintro r_ w1 ⟨rfl, hb1⟩) | (go_at_call 53; refine (C2.out _ hb1).mono ?_; rintro r_ w2 ⟨rfl, rfl⟩) | (go_at_call 54; refine (C3.out _ hb1).mono ?_; rintro r_ w2 ⟨rfl, rfl⟩))
      go_returns
      exact ⟨rfl, hb1⟩
end Go.Proofs.Ytnjmjopbeojfoaa
