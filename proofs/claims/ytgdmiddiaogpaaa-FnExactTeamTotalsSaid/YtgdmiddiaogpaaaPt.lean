/- Rising lists: a number put to its place, once. -/
import Derived.Test.YtgdmiddiaogpaaaAp
import Derived.Test.YtgdmiddiaogpaaaZs
namespace Go.Proofs.Ytgdmiddiaogpaaa
open Go.RowKit Go.BigFrame
attribute [local go_sem] sub_cell sub_frozen drewN_setCell

def putL (z : Int) : List Int → List Int
  | [] => [z]
  | x :: t => if z ≤ x then (if z < x then z :: x :: t else x :: t) else x :: putL z t
theorem putL_mem {z y : Int} {l : List Int} : y ∈ putL z l ↔ y = z ∨ y ∈ l := by
  induction l with
  | nil => simp [putL]
  | cons x t ih =>
    rw [putL]
    split
    · split
      · simp
      · have : z = x := by omega
        subst this
        simp
    · rw [List.mem_cons, ih, List.mem_cons]
      constructor
      · rintro (h | h | h)
        · exact .inr (.inl h)
        · exact .inl h
        · exact .inr (.inr h)
      · rintro (h | h | h)
        · exact .inr (.inl h)
        · exact .inl h
        · exact .inr (.inr h)
theorem putL_rise {z : Int} {l : List Int} (h : l.Pairwise (· < ·)) : (putL z l).Pairwise (· < ·) := by
  induction l with
  | nil => simp [putL]
  | cons x t ih =>
    obtain ⟨h1, h2⟩ := List.pairwise_cons.1 h
    rw [putL]
    split
    · split
      · rename_i a b
        exact List.pairwise_cons.2 ⟨fun y hy => by
          rcases List.mem_cons.1 hy with rfl | hy
          · exact b
          · have := h1 y hy; omega, h⟩
      · exact h
    · rename_i a
      exact List.pairwise_cons.2 ⟨fun y hy => by
        rcases putL_mem.1 hy with rfl | hy
        · omega
        · exact h1 y hy, ih h2⟩
theorem putL_len (z : Int) (l : List Int) : (putL z l).length ≤ l.length + 1 := by
  induction l with
  | nil => simp [putL]
  | cons x t ih =>
    rw [putL]
    split
    · split <;> simp
    · simp; omega
theorem rise_eq {a b : List Int} (ha : a.Pairwise (· < ·)) (hb : b.Pairwise (· < ·)) (h : ∀ y, y ∈ a ↔ y ∈ b) : a = b := by
  have na : a.Nodup := ha.imp fun h => by omega
  have nb : b.Nodup := hb.imp fun h => by omega
  exact List.Perm.eq_of_pairwise (le := (· < ·)) (fun x y _ _ h1 h2 => by omega) ha hb ((List.perm_ext_iff_of_nodup na nb).2 h)
/-- What is still to come, a number having been put (d) or not. -/
def putR (z : Int) (d : Bool) (l : List Int) : List Int := if d = true then l else putL z l
theorem putR_end (z : Int) (d : Bool) : putR z d [] = if d = true then [] else [z] := rfl
theorem putR_done (z x : Int) (t : List Int) : putR z true (x :: t) = x :: putR z true t := rfl
theorem putR_lt {z x : Int} (t : List Int) (h : x < z) : putR z false (x :: t) = x :: putR z false t := by
  show putL z (x :: t) = x :: putL z t
  rw [putL, if_neg (by omega)]
theorem putR_eq (z : Int) (t : List Int) : putR z false (z :: t) = z :: putR z true t := by
  show putL z (z :: t) = z :: t
  rw [putL, if_pos (by omega), if_neg (by omega)]
theorem putR_gt {z x : Int} (t : List Int) (h : z < x) : putR z false (x :: t) = z :: x :: putR z true t := by
  show putL z (x :: t) = z :: x :: t
  rw [putL, if_pos (by omega), if_pos h]
theorem drop_atI {l : List Int} {k : Nat} {x : Int} (h : l[k]? = some x) : l.drop k = x :: l.drop (k + 1) := by
  obtain ⟨hk, hx⟩ := List.getElem?_eq_some_iff.1 h
  rw [List.drop_eq_getElem_cons hk, hx]

set_option maxHeartbeats 4000000 in
theorem c_l00Put (A : Option Addr) (n c : Nat) (l : List Int) (z : Int) (w : World) (ha : Zs w A n l) (hn : n ≤ 1048576) :
    Calls Try.prog 70 #[.slice A n c, .int .i64 z] w (ZsPost (putL z l) w) := by
  have HL := Lib.hid ha.1
  have HA := Lib.hid ha
  clear ha
  go_enter Try.func70, Try.ntmps70
  go_wp2_with fail
  go_loopw [5, 6, 7] (fun v d i wr => ∃ (k m : Nat) (b : Bool) (xs : List Int), k ≤ n ∧ m ≤ k + 1 ∧ i = .int .i64 k ∧ d = .bool b ∧ Below w.heap.size w wr ∧ wr.ownsRow w.heap.size 2 1 v m (xs.map (Value.int .i64)) ∧ Hid (xs ++ putR z b (l.drop k) = putL z l) ∧ Hid (b = false → m ≤ k)) (fun _ _ i _ => n - (intOf i).toNat)
  case atStart => exact ⟨0, 0, false, [], Nat.zero_le _, by omega, rfl, rfl, by (repeat' (first | (with_reducible exact Below.refl _ _) | (with_reducible assumption) | (with_reducible refine below_drewN ?_ _) | (with_reducible refine Below.drew ?_) | (with_reducible refine Below.alloc ?_ ?_ _) | (with_reducible refine Below.setCell ?_ ?_ _) | go_size)), World.ownsRow_made w #[] 0 (Nat.le_refl _) (by simp [maxLen]) rfl, rfl, fun _ => Nat.le_refl _⟩
  case round =>
    obtain ⟨k, m, b, xs, hk, hm, rfl, rfl, hB, hown, hx, hmb⟩ := hrel
    have hz := hB.size
    by_cases hlt : k < n
    · obtain ⟨bb, o, x, rfl, hb1, hb2, hxk, c0⟩ := z_at HA.out hB hlt
      have HD := Lib.hid (drop_atI hxk)
      have HO := Lib.hid hown
      clear hown hxk
      cases b
      · have hm2 := hmb.out rfl
        by_cases h1 : x < z
        · have HX : Hid ((xs ++ [x]) ++ putR z false (l.drop (k + 1)) = putL z l) := by
            show _ = _
            rw [← hx.out, HD.out, putR_lt _ h1]; simp
          have hge : ¬ z ≤ x := by omega
          clear hx hmb
          go_wp2_with (at_builtin; refine app1 rfl (.tmp 35) (.tmp 40) _ rfl w.heap.size 2 _ 8 Try.underlying40 info_int64 rfl _ _ rfl _ m _ rfl HO.out rfl (by omega) (by omega) hz ?_; intro v2 w2 hown2 hb2 _; have HW := Lib.hid hown2; have HB := Lib.hid hb2; clear hown2 hb2)
          go_roundw
          case rel => exact ⟨k + 1, m + 1, false, xs ++ [x], by omega, by omega, by go_num, rfl, hB.trans HB.out, by rw [List.map_append]; exact HW.out, HX, fun _ => by omega⟩
          case measure => simp [intOf]; omega
        · have hge : z ≤ x := by omega
          by_cases h2 : x = z
          · subst h2
            have HX : Hid ((xs ++ [x]) ++ putR x true (l.drop (k + 1)) = putL x l) := by
              show _ = _
              rw [← hx.out, HD.out, putR_eq]; simp
            have hng : ¬ x < x := by omega
            clear hx hmb h1
            go_wp2_with (at_builtin; refine app1 rfl (.tmp 35) (.tmp 40) _ rfl w.heap.size 2 _ 8 Try.underlying40 info_int64 rfl _ _ rfl _ m _ rfl HO.out rfl (by omega) (by omega) hz ?_; intro v2 w2 hown2 hb2 _; have HW := Lib.hid hown2; have HB := Lib.hid hb2; clear hown2 hb2)
            go_roundw
            case rel => exact ⟨k + 1, m + 1, true, xs ++ [x], by omega, by omega, by go_num, rfl, hB.trans HB.out, by rw [List.map_append]; exact HW.out, HX, fun h => by cases h⟩
            case measure => simp [intOf]; omega
          · have hgt : z < x := by omega
            have HX : Hid ((xs ++ [z] ++ [x]) ++ putR z true (l.drop (k + 1)) = putL z l) := by
              show _ = _
              rw [← hx.out, HD.out, putR_gt _ hgt]; simp
            clear hx hmb h1 h2
            go_wp2_with (first | (at_builtin; refine app1 rfl (.tmp 31) (.tmp 33) _ rfl w.heap.size 2 _ 8 Try.underlying40 info_int64 rfl _ _ rfl _ m _ rfl HO.out rfl (by omega) (by omega) hz ?_; intro v2 w2 hown2 hq2 hg2; obtain ⟨A2, c2, rfl⟩ := own_slice hown2; have HW := Lib.hid hown2; have HB := Lib.hid (hB.trans hq2); have hc2 := ((hB.trans hq2).cell (p := ⟨bb, o + k, none⟩) hb2).trans ((hB.cell (p := ⟨bb, o + k, none⟩) hb2).symm.trans c0); have hlt2 := Nat.lt_of_lt_of_le hb2 HB.out.size; clear hown2 hq2 hg2) | (at_builtin; refine app1 rfl (.tmp 35) (.tmp 40) _ rfl w.heap.size 2 _ 8 Try.underlying40 info_int64 rfl _ _ rfl _ (m + 1) _ rfl HW.out rfl (by omega) (by omega) HB.out.size ?_; intro v3 w3 hown3 hb3 _; have HW3 := Lib.hid hown3; have HB3 := Lib.hid hb3; clear hown3 hb3))
            go_roundw
            case rel => exact ⟨k + 1, m + 1 + 1, true, xs ++ [z] ++ [x], by omega, by omega, by go_num, rfl, HB.out.trans HB3.out, by rw [List.map_append, List.map_append]; exact HW3.out, HX, fun h => by cases h⟩
            case measure => simp [intOf]; omega
      · have HX : Hid ((xs ++ [x]) ++ putR z true (l.drop (k + 1)) = putL z l) := by
          show _ = _
          rw [← hx.out, HD.out, putR_done]; simp
        clear hx hmb
        go_wp2_with (at_builtin; refine app1 rfl (.tmp 35) (.tmp 40) _ rfl w.heap.size 2 _ 8 Try.underlying40 info_int64 rfl _ _ rfl _ m _ rfl HO.out rfl (by omega) (by omega) hz ?_; intro v2 w2 hown2 hb2 _; have HW := Lib.hid hown2; have HB := Lib.hid hb2; clear hown2 hb2)
        go_roundw
        case rel => exact ⟨k + 1, m + 1, true, xs ++ [x], by omega, by omega, by go_num, rfl, hB.trans HB.out, by rw [List.map_append]; exact HW.out, HX, fun h => by cases h⟩
        case measure => simp [intOf]; omega
    · have hkn : Hid (l.drop k = []) := List.drop_eq_nil_of_le (by rw [HL.out]; omega)
      have HO := Lib.hid hown
      clear hown
      cases b
      · have HX : Hid (putL z l = xs ++ [z]) := by show _ = _; rw [← hx.out, hkn.out]; rfl
        clear hx hmb
        go_wp2_with (at_builtin; refine app1 rfl (.tmp 44) (.tmp 46) _ rfl w.heap.size 2 _ 8 Try.underlying40 info_int64 rfl _ _ rfl _ m _ rfl HO.out rfl (by omega) (by omega) hz ?_; intro v2 w2 hown2 hb2 _; have HW := Lib.hid hown2; have HB := Lib.hid hb2; clear hown2 hb2)
        go_ret
        rw [HX.out]
        have hl := HO.out.1
        exact ZsPost.mk_ (n := m + 1) (by simp at hl ⊢; omega) (by rw [List.map_append]; exact HW.out) (hB.trans HB.out)
      · have HX : Hid (putL z l = xs) := by show _ = _; rw [← hx.out, hkn.out]; exact List.append_nil _
        clear hx hmb
        go_wp2_with fail
        go_ret
        rw [HX.out]
        have hl := HO.out.1
        exact ZsPost.mk_ (by simpa using hl) HO.out hB
end Go.Proofs.Ytgdmiddiaogpaaa
