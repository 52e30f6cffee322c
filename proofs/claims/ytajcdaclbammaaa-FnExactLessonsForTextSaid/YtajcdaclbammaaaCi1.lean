/- Contracts: lessons with all that they need; the first lesson that needs itself: the reference. -/
import Derived.Test.YtajcdaclbammaaaCi0
import Derived.Test.YtajcdaclbammaaaOw
namespace Go.Proofs.Ytajcdaclbammaaa
open Go.RowKit Go.BigFrame
attribute [local go_sem] sub_cell sub_frozen drewN_setCell

/-- The first k of z, x put among them when the mark is set. -/
def PutI (z : List Int) (x : Int) (k : Nat) (d : Bool) (L : List Int) : Prop := (d = false ∧ L = z.take k) ∨ (d = true ∧ ∃ j, j ≤ k ∧ L = z.take j ++ x :: (z.take k).drop j)
section
variable {z L : List Int} {x y : Int} {k : Nat}
theorem PutI.copy {d : Bool} (h : PutI z x k d L) (hy : z[k]? = some y) : PutI z x (k + 1) d (L ++ [y]) := by
  have hk := (List.getElem?_eq_some_iff.1 hy).1
  rcases h with ⟨rfl, rfl⟩ | ⟨rfl, j, hj, rfl⟩
  · exact .inl ⟨rfl, by rw [List.take_add_one, hy]; rfl⟩
  · refine .inr ⟨rfl, j, by omega, ?_⟩
    rw [List.take_add_one, hy, Option.toList_some, List.drop_append_of_le_length (by rw [List.length_take]; omega)]
    simp
theorem PutI.put (h : PutI z x k false L) (hy : z[k]? = some y) : PutI z x (k + 1) true (L ++ [x] ++ [y]) := by
  have hk := (List.getElem?_eq_some_iff.1 hy).1
  rcases h with ⟨_, rfl⟩ | ⟨h, _⟩
  · refine .inr ⟨rfl, k, by omega, ?_⟩
    rw [List.take_add_one, hy, Option.toList_some, List.drop_append_of_le_length (by rw [List.length_take]; omega), List.drop_eq_nil_of_le (by rw [List.length_take]; omega)]
    simp
  · cases h
theorem PutI.len {d : Bool} (h : PutI z x k d L) (hk : k ≤ z.length) : L.length ≤ k + 1 := by
  rcases h with ⟨rfl, rfl⟩ | ⟨rfl, j, hj, rfl⟩
  · simp; omega
  · simp; omega
theorem PutI.fin1 {n : Nat} (h : PutI z x n true L) (hn : z.length = n) : ∃ j, j ≤ z.length ∧ L = z.take j ++ x :: z.drop j := by
  rcases h with ⟨h, _⟩ | ⟨_, j, hj, rfl⟩
  · cases h
  · have e : z.take n = z := List.take_of_length_le (by omega)
    exact ⟨j, by omega, by rw [e]⟩
theorem PutI.fin0 {n : Nat} (h : PutI z x n false L) (hn : z.length = n) : ∃ j, j ≤ z.length ∧ L ++ [x] = z.take j ++ x :: z.drop j := by
  rcases h with ⟨_, rfl⟩ | ⟨h, _⟩
  · exact ⟨n, by omega, by rw [List.drop_eq_nil_of_le (by omega)]⟩
  · cases h
end
set_option maxRecDepth 20000 in
set_option maxHeartbeats 4000000 in
theorem c_l00Put (A : Option Addr) (n c : Nat) (z : List Int) (x : Int) (hx : x ∉ z) (w : World) (hz : Zs w A n z) (hn : n ≤ 1048576) :
    Calls Try.prog 67 #[.slice A n c, .int .i64 x] w fun r w' => ∃ j, j ≤ z.length ∧ ZsPost (z.take j ++ x :: z.drop j) w r w' := by
  have HZ := Lib.hid hz
  have HL := Lib.hid hz.1
  have HX := Lib.hid hx
  clear hz hx
  go_enter Try.func67, Try.ntmps67
  go_wp2_with fail
  go_loopw [5, 6, 7] (fun v d i wr => ∃ (k : Nat) (dn : Bool) (L : List Int), k ≤ n ∧ i = .int .i64 k ∧ d = .bool dn ∧ Below w.heap.size w wr ∧ Hid (wr.ownsRow w.heap.size 2 1 v L.length (L.map (Value.int .i64))) ∧ Hid (PutI z x k dn L) ∧ L.length ≤ k + 1) (fun _ _ i _ => n - (intOf i).toNat)
  case atStart => exact ⟨0, false, [], Nat.zero_le _, rfl, rfl, by (repeat' (first | (with_reducible exact Below.refl _ _) | (with_reducible assumption) | (with_reducible refine below_drewN ?_ _) | (with_reducible refine Below.drew ?_) | (with_reducible refine Below.alloc ?_ ?_ _) | (with_reducible refine Below.setCell ?_ ?_ _) | go_size)), World.ownsRow_made _ _ 0 (Nat.le_refl _) (by simp [maxLen]) rfl, Lib.hid (.inl ⟨rfl, rfl⟩), by simp⟩
  case round =>
    obtain ⟨k, dn, L, hk, rfl, rfl, hB, hown, hP, hLl⟩ := hrel
    have hz := hB.size
    by_cases hlt : k < n
    · obtain ⟨b, o, y, rfl, hb1, hb2, hy, c0⟩ := z_at HZ.out hB hlt
      have hne : y ≠ x := fun e => HX.out (e ▸ List.mem_of_getElem? hy)
      have hkI : (k : Int) < n := by omega
      have hk0 : (0 : Int) ≤ (k : Int) := by omega
      cases dn
      · by_cases hge : x < y
        · have hge2 : x ≤ y := by omega
          have HN := Lib.hid (hP.out.put hy)
          have hl1 : L.length ≤ k := by
            rcases hP.out with ⟨_, e⟩ | ⟨e, _⟩
            · rw [e, List.length_take]; omega
            · cases e
          clear hy hne hP
          go_wp2_with (first | (at_builtin; refine app1 rfl (.tmp 31) (.tmp 33) _ rfl w.heap.size 2 _ 8 Try.underlying30 info_int64 rfl _ _ rfl _ L.length _ rfl hown.out rfl (by omega) (by omega) (by omega) ?_; intro v3 w3 hown3 hb3 _; have O3 := Lib.hid hown3; have HB3 := Lib.hid (hB.trans hb3); have k3 := ((HB3.out.cell (p := ⟨b, o + k, none⟩) hb2).trans ((hB.cell (p := ⟨b, o + k, none⟩) hb2).symm.trans c0)); have hz3 := HB3.out.size; have hb4 : b < w3.heap.size := (by omega); clear hown3 hb3) | (at_builtin; refine app1 rfl (.tmp 35) (.tmp 40) _ rfl w.heap.size 2 _ 8 Try.underlying30 info_int64 rfl _ _ rfl _ (L.length + 1) _ rfl O3.out rfl (by omega) (by omega) (by omega) ?_; intro v4 w4 hown4 hb4' _; have O4 := Lib.hid hown4; have HB4 := Lib.hid (HB3.out.trans hb4'); clear hown4 hb4'))
          go_roundw
          case rel => first | exact ⟨k + 1, true, _, by omega, by go_num, rfl, HB4.out, by show World.ownsRow _ _ _ _ _ _ _; simp only [List.map_append, List.length_append, List.length_cons, List.length_nil]; exact O4.out, HN, by simp only [List.length_append, List.length_cons, List.length_nil]; omega⟩ | ((repeat apply Exists.intro); exact ⟨⟨k + 1, true, _, by omega, by go_num, rfl, HB4.out, by show World.ownsRow _ _ _ _ _ _ _; simp only [List.map_append, List.length_append, List.length_cons, List.length_nil]; exact O4.out, HN, by simp only [List.length_append, List.length_cons, List.length_nil]; omega⟩, rfl⟩)
          case measure => simp [intOf]; omega
        · have hge2 : ¬ x ≤ y := by omega
          have HN := Lib.hid (hP.out.copy hy)
          have hl1 : L.length ≤ k := by
            rcases hP.out with ⟨_, e⟩ | ⟨e, _⟩
            · rw [e, List.length_take]; omega
            · cases e
          clear hy hne hP
          go_wp2_with (at_builtin; refine app1 rfl (.tmp 35) (.tmp 40) _ rfl w.heap.size 2 _ 8 Try.underlying30 info_int64 rfl _ _ rfl _ L.length _ rfl hown.out rfl (by omega) (by omega) (by omega) ?_; intro v4 w4 hown4 hb4' _; have O4 := Lib.hid hown4; have HB4 := Lib.hid (hB.trans hb4'); clear hown4 hb4')
          go_roundw
          case rel => first | exact ⟨k + 1, false, _, by omega, by go_num, rfl, HB4.out, by show World.ownsRow _ _ _ _ _ _ _; simp only [List.map_append, List.length_append, List.length_cons, List.length_nil]; exact O4.out, HN, by simp only [List.length_append, List.length_cons, List.length_nil]; omega⟩ | ((repeat apply Exists.intro); exact ⟨⟨k + 1, false, _, by omega, by go_num, rfl, HB4.out, by show World.ownsRow _ _ _ _ _ _ _; simp only [List.map_append, List.length_append, List.length_cons, List.length_nil]; exact O4.out, HN, by simp only [List.length_append, List.length_cons, List.length_nil]; omega⟩, rfl⟩)
          case measure => simp [intOf]; omega
      · have HN := Lib.hid (hP.out.copy hy)
        clear hy hne hP
        go_wp2_with (at_builtin; refine app1 rfl (.tmp 35) (.tmp 40) _ rfl w.heap.size 2 _ 8 Try.underlying30 info_int64 rfl _ _ rfl _ L.length _ rfl hown.out rfl (by omega) (by omega) (by omega) ?_; intro v4 w4 hown4 hb4' _; have O4 := Lib.hid hown4; have HB4 := Lib.hid (hB.trans hb4'); clear hown4 hb4')
        go_roundw
        case rel => first | exact ⟨k + 1, true, _, by omega, by go_num, rfl, HB4.out, by show World.ownsRow _ _ _ _ _ _ _; simp only [List.map_append, List.length_append, List.length_cons, List.length_nil]; exact O4.out, HN, by simp only [List.length_append, List.length_cons, List.length_nil]; omega⟩ | ((repeat apply Exists.intro); exact ⟨⟨k + 1, true, _, by omega, by go_num, rfl, HB4.out, by show World.ownsRow _ _ _ _ _ _ _; simp only [List.map_append, List.length_append, List.length_cons, List.length_nil]; exact O4.out, HN, by simp only [List.length_append, List.length_cons, List.length_nil]; omega⟩, rfl⟩)
        case measure => simp [intOf]; omega
    · have hkn : k = n := by omega
      subst hkn
      cases dn
      · obtain ⟨j, hj, hL⟩ := hP.out.fin0 HL.out
        have HJ := Lib.hid hL
        clear hP hL
        go_wp2_with (at_builtin; refine app1 rfl (.tmp 44) (.tmp 46) _ rfl w.heap.size 2 _ 8 Try.underlying30 info_int64 rfl _ _ rfl _ L.length _ rfl hown.out rfl (by omega) (by omega) (by omega) ?_; intro v4 w4 hown4 hb4' _; have O4 := Lib.hid hown4; have HB4 := Lib.hid (hB.trans hb4'); clear hown4 hb4')
        go_ret
        refine ⟨j, hj, ZsPost.mk_ (by rw [← HJ.out, List.length_append]) ?_ HB4.out⟩
        rw [← HJ.out, List.map_append]
        exact O4.out
      · obtain ⟨j, hj, hL⟩ := hP.out.fin1 HL.out
        have HJ := Lib.hid hL
        clear hP hL
        go_wp2_with fail
        go_ret
        refine ⟨j, hj, ZsPost.mk_ (by rw [← HJ.out]) ?_ hB⟩
        rw [← HJ.out]
        exact hown.out
set_option maxRecDepth 20000 in
set_option maxHeartbeats 8000000 in
theorem c_l18All (A B : Option Addr) (n c m d : Nat) (l : List TLesson) (z : List Int) (w : World) (ha : Ls w A n l) (hz : Zs w B m z) (hok : lesB l = true) (hnd : z.Nodup) (hbd : ∀ x ∈ z, (0 : Int) ≤ x ∧ x < n) :
    Calls Try.prog 51 #[.slice A n c, .slice B m d] w fun r w' => ∃ zs, AllInv (needsL l) n z zs zs.length ∧ ZsPost zs w r w' := by
  have hl := ha.len
  subst hl
  have h12 := les_len hok
  have HA := Lib.hid ha
  have HOK := Lib.hid hok
  obtain rfl : z.length = m := hz.1
  have C0 := Lib.hid (c_l00Own B z.length d z w hz (by
    have := nodup_short (n := l.length) hnd hbd
    omega))
  have S0 := Lib.hid (AllInv.start (N := needsL l) hnd hbd)
  clear ha hz hok hnd hbd
  go_enter Try.func51, Try.ntmps51
  go_wp2_with (go_at_call 66; refine C0.out.mono ?_; intro r_ w1 h1; obtain ⟨B1, d1, rfl, ow1, hb1⟩ := h1.elim (n := z.length) rfl; have OW1 := Lib.hid ow1; have HB1 := Lib.hid hb1; clear ow1 hb1 h1)
  go_loopw [5, 6] (fun v i wr => ∃ (k : Nat) (zs : List Int), i = .int .i64 k ∧ Below w.heap.size w wr ∧ Hid (wr.ownsRow w.heap.size 2 1 v zs.length (zs.map (Value.int .i64))) ∧ Hid (AllInv (needsL l) l.length z zs k)) (fun v i _ => (l.length - lenV v) * (l.length + 1) + (lenV v - (intOf i).toNat))
  case atStart => exact ⟨0, z, rfl, HB1.out, OW1, S0⟩
  case round =>
    obtain ⟨k, zs, rfl, hB, hown, hI⟩ := hrel
    have hz := hB.size
    have hzl := hI.out.zlen
    obtain ⟨A1, c1, hv⟩ := own_slice hown.out
    subst hv
    by_cases hlt : k < zs.length
    · have hx : zs[k]? = some zs[k] := List.getElem?_eq_getElem hlt
      obtain ⟨hx0, hx1⟩ := hI.out.bd _ (List.mem_of_getElem? hx)
      obtain ⟨p, hp⟩ : ∃ p : Nat, zs[k] = (p : Int) := ⟨zs[k].toNat, by omega⟩
      rw [hp] at hx hx0 hx1
      have hpn : p < l.length := by omega
      obtain ⟨b, o, nm, lt, S, cc, zz, hh, rfl, hb2, hx2, hK⟩ := les_all HA.out hpn
      have K := Lib.hid hK
      obtain ⟨g1, cap1, hv1, hg1, hg2⟩ := hown.out.form (by omega)
      simp only [Value.slice.injEq, true_and] at hv1
      obtain ⟨rfl, rfl⟩ := hv1
      have kc := own_cell hown.out (j := k) (u := .int .i64 (p : Int)) (by rw [List.getElem?_map, hx]; rfl)
      have HND := Lib.hid (needsL_at hx2)
      have HX := Lib.hid hx
      have hzn := needs_len HOK.out (p : Int)
      rw [HND.out] at hzn
      simp only at hzn
      obtain ⟨hb1, c0, c1', c2, c3, _⟩ := hK _ hB
      have hkI : (k : Int) < (zs.length : Int) := by omega
      have hpI : (p : Int) < (l.length : Int) := by omega
      clear hx hx2 hK c0 c1' c3 hp
      go_wp2_with fail
      clear c2 kc hb1
      go_loopw [5, 6, 8] (fun v i q wr => ∃ j : Nat, j ≤ zz.length ∧ v = .slice (some ⟨g1, 0, none⟩) zs.length c1 ∧ i = .int .i64 k ∧ q = .int .i64 j ∧ Below w.heap.size w wr ∧ Hid (wr.ownsRow w.heap.size 2 1 (.slice (some ⟨g1, 0, none⟩) zs.length c1) zs.length (zs.map (Value.int .i64))) ∧ Hid (∀ y ∈ zz.take j, y ∈ zs)) (fun _ _ q _ => zz.length - (intOf q).toNat)
      case atStart => exact ⟨0, Nat.zero_le _, rfl, rfl, rfl, hB, hown, Lib.hid (by simp)⟩
      case round =>
        clear hB hown hz hg2
        obtain ⟨j, hj, rfl, rfl, rfl, hB, hown, hal⟩ := hrel
        have hz := hB.size
        obtain ⟨_, _, _, _, _, hzz⟩ := K.out _ hB
        have HZZ := Lib.hid hzz
        clear hzz
        by_cases hlt3 : j < zz.length
        · obtain ⟨bz, oz, y, hAz, hbz1, hbz2, hy, cz⟩ := z_at HZZ.out (Below.refl _ _) hlt3
          subst hAz
          have HY := Lib.hid hy
          clear hy
          cases hh2 : hasZ zs y
          · have HH := Lib.hid hh2
            have hyn : y ∉ zs := by simpa [hasZ] using hh2
            have HYN := Lib.hid hyn
            have hyN : y ∈ needsL l (p : Int) := by rw [HND.out]; exact List.mem_of_getElem? HY.out
            have HYM := Lib.hid hyN
            clear hh2 hyn hyN
            go_wp2_with (first | (go_at_call 59; refine (c_l00Has _ _ _ zs _ _ HH.out _ (zs_ownN hown.out) (by omega)).mono ?_; rintro e w' ⟨rfl, rfl⟩) | (go_at_call 67; refine (c_l00Put _ _ _ zs y HYN.out _ (zs_ownN hown.out) (by omega)).mono ?_; rintro r_ w5 ⟨j5, hj5, h5⟩; obtain ⟨B5, d5, rfl, ow5, hb5⟩ := h5.elim (n := zs.length + 1) (by simp only [List.length_append, List.length_cons, List.length_take, List.length_drop]; omega); have OW5 := Lib.hid ow5; have HB5 := Lib.hid (hB.trans (hb5.mono hz)); have HJ5 := Lib.hid hj5; clear ow5 hb5 h5 hj5))
            have HPUT := Lib.hid (hI.out.put (needs_bd HOK.out) HX.out HYM.out HYN.out HJ5.out)
            have hln : (zs.take j5 ++ y :: zs.drop j5).length = zs.length + 1 := by have := HJ5.out; simp only [List.length_append, List.length_cons, List.length_take, List.length_drop]; omega
            have hzl2 := HPUT.out.zlen
            rw [hln] at hzl2
            go_roundw
            case rel => first | exact ⟨0, _, rfl, HB5.out, by show World.ownsRow _ _ _ _ _ _ _; rw [hln]; exact own_base OW5.out hz, HPUT⟩ | ((repeat apply Exists.intro); exact ⟨⟨0, _, rfl, HB5.out, by show World.ownsRow _ _ _ _ _ _ _; rw [hln]; exact own_base OW5.out hz, HPUT⟩, rfl⟩)
            case measure =>
              simp only [lenV, intOf]
              have e1 : (l.length - zs.length) = (l.length - (zs.length + 1)) + 1 := by omega
              rw [e1, Nat.add_mul]
              simp
              omega
          · have HH := Lib.hid hh2
            have hyin : y ∈ zs := by simpa [hasZ] using hh2
            have HYI := Lib.hid hyin
            clear hh2 hyin
            go_wp2_with (go_at_call 59; refine (c_l00Has _ _ _ zs _ _ HH.out _ (zs_ownN hown.out) (by omega)).mono ?_; rintro e w' ⟨rfl, rfl⟩)
            go_roundw
            case rel => exact ⟨j + 1, by omega, rfl, rfl, by go_num, hB, hown, Lib.hid (fun a ha => by
              rw [List.take_add_one, HY.out] at ha
              rcases List.mem_append.1 ha with h1 | h1
              · exact hal.out a h1
              · simp at h1; rw [h1]; exact HYI.out)⟩
            case measure => simp [intOf]; omega
        · have hjn : j = zz.length := by omega
          have HSK := Lib.hid (hI.out.skip HX.out (fun y hy => by
            rw [HND.out] at hy
            exact hal.out y (by rw [List.take_of_length_le (by omega)]; exact hy)))
          go_wp2_with fail
          go_roundw
          case rel => first | exact ⟨k + 1, zs, by go_num, hB, hown, HSK⟩ | ((repeat apply Exists.intro); exact ⟨⟨k + 1, zs, by go_num, hB, hown, HSK⟩, rfl⟩)
          case measure => simp [lenV, intOf]; omega
    · have hkz := hI.out.le
      have hke : k = zs.length := by omega
      have HI : Hid (AllInv (needsL l) l.length z zs zs.length) := hke ▸ hI.out
      have hkI : ¬ (k : Int) < (zs.length : Int) := by omega
      clear hI hke
      go_wp2_with fail
      go_ret
      exact ⟨zs, HI.out, ZsPost.mk_ rfl hown.out hB⟩
end Go.Proofs.Ytajcdaclbammaaa
