/- Contracts: the letters of some lessons; those of a text that are missing. -/
import Derived.Test.YtajcdaclbammaaaLe2
import Derived.Test.YtajcdaclbammaaaAs
import Derived.Test.YtajcdaclbammaaaArw
import Derived.Test.YtajcdaclbammaaaSplt
namespace Go.Proofs.Ytajcdaclbammaaa
open Go.RowKit Go.BigFrame
attribute [local go_sem] sub_cell sub_frozen drewN_setCell

theorem bl_app (s t : ByteArray) : bl (s ++ t) = bl s ++ bl t := by simp [bl, ByteArray.data_append]
theorem bl_ext (s : ByteArray) (i j : Nat) : bl (s.extract i j) = ((bl s).drop i).take (j - i) := by rw [ext_sb, bl_sb]
theorem bl_one {s : ByteArray} {k : Nat} (h : k < s.size) : bl (s.extract k (k + 1)) = [s[k]] := by
  rw [bl_ext, show k + 1 - k = 1 by omega]
  have h2 : k < (bl s).length := by rw [bl_len]; exact h
  rw [List.drop_eq_getElem_cons h2]
  rfl
theorem one_size {t : ByteArray} {c : UInt8} (h : bl t = [c]) : t.size = 1 := by rw [← bl_len, h]; rfl
theorem one_get {t : ByteArray} {c : UInt8} (h : bl t = [c]) (hh : 0 < t.size) : t[0]'hh = c := by
  have := bl_get t 0 hh
  rw [h] at this
  simpa using this.symm
/-- Where a byte goes. -/
theorem put_text {s t : ByteArray} {c : UInt8} {S : List UInt8} {k : Nat} (hs : bl s = srt (memB S)) (ht : bl t = [c]) (hk : k ≤ s.size) (h1 : ∀ i x, i < k → (bl s)[i]? = some x → (x.toNat : Int) < c.toNat) (h2 : ∀ x, (bl s)[k]? = some x → (c.toNat : Int) < x.toNat) :
    s.extract 0 k ++ t ++ s.extract k s.size = sb (srt (memB (S ++ [c]))) := by
  apply sb_ext
  rw [bl_app, bl_app, bl_ext, bl_ext, ht, bl_sb, List.drop_zero, Nat.sub_zero, List.take_of_length_le (l := (bl s).drop k) (by rw [List.length_drop, bl_len]; omega), List.append_assoc]
  exact put_new (S := S) hs (by rw [bl_len]; exact hk) h1 h2
theorem put_same {s : ByteArray} {c : UInt8} {S : List UInt8} {k : Nat} (hs : bl s = srt (memB S)) (hc : (bl s)[k]? = some c) : s = sb (srt (memB (S ++ [c]))) := by
  apply sb_ext
  rw [bl_sb]
  exact put_old (S := S) hs (List.mem_of_getElem? hc)
theorem below_step {s : ByteArray} {k : Nat} {c : UInt8} (hk : k < s.size) (h : ∀ i x, i < k → (bl s)[i]? = some x → (x.toNat : Int) < c.toNat) (hl : (s[k].toNat : Int) < c.toNat) : ∀ i x, i < k + 1 → (bl s)[i]? = some x → (x.toNat : Int) < c.toNat := by
  intro i x hi hx
  by_cases e : i = k
  · subst e
    rw [bl_get s i hk] at hx
    simp at hx
    subst hx
    exact hl
  · exact h i x (by omega) hx
set_option maxHeartbeats 4000000 in
theorem c_l02PutLetter (s t : ByteArray) (c : UInt8) (S : List UInt8) (hs : bl s = srt (memB S)) (ht : bl t = [c]) (w : World) :
    Calls Try.prog 65 #[.string s, .string t] w fun e w' => e = .returned (.string (sb (srt (memB (S ++ [c]))))) ∧ Draws w w' := by
  have h256 : s.size ≤ 256 := by rw [← bl_len, hs]; exact srt_len _
  have t1 := one_size ht
  have t2 := one_get ht
  have HS := Lib.hid hs
  have HT := Lib.hid ht
  have t3 : (0 : Int) < (t.size : Int) := by omega
  have t4 : 0 < t.size := by omega
  have t5 := t2 t4
  clear hs ht t2
  go_enter Try.func65, Try.ntmps65
  go_wp2_with fail
  go_loopw [5] (fun i wr => ∃ k nd : Nat, k ≤ s.size ∧ i = .int .i64 k ∧ wr = w.drewN nd ∧ Hid (∀ i x, i < k → (bl s)[i]? = some x → (x.toNat : Int) < c.toNat)) (fun i _ => s.size - (intOf i).toNat)
  case atStart => exact ⟨0, 0, Nat.zero_le _, rfl, rfl, Lib.hid (fun i x hi => by omega)⟩
  case round =>
    obtain ⟨k, nd, hk, rfl, rfl, hl⟩ := hrel
    have hk0 : (0 : Int) ≤ (k : Int) := by omega
    have hkI : (k : Int) ≤ (s.size : Int) := by omega
    by_cases hlt : k < s.size
    · have hI : (k : Int) < (s.size : Int) := by omega
      have hd : decide ((k : Int) < (s.size : Int)) = true := by simpa using hlt
      have hg := Lib.hid (bl_get s k hlt)
      by_cases h1 : (s[k].toNat : Int) < c.toNat
      · go_wp2_with fail
        go_quiet (fail)
        go_wp2_with fail
        go_roundw
        case rel => exact ⟨k + 1, _, by omega, by go_num, rfl, below_step hlt hl.out h1⟩
        case measure => simp [intOf]; omega
      · by_cases h2 : s[k] = c
        · have h3 : ((s[k].toNat : Int) == (c.toNat : Int)) = true := by rw [h2]; exact beq_self_eq_true _
          have HE := Lib.hid (put_same HS.out (h2 ▸ hg.out))
          clear h2
          go_wp2_with fail
          go_quiet (fail)
          go_wp2_with fail
          go_quiet (fail)
          go_wp2_with fail
          go_ret
          exact ⟨by have := HE.out; exact congrArg (fun z => Ending.returned (Value.string z)) this, ⟨_, by simp only [World.drewN_drewN]; rfl⟩⟩
        · have h3 : ((s[k].toNat : Int) == (c.toNat : Int)) = false := by rw [beq_eq_false_iff_ne]; exact fun e => h2 (u8int.1 e)
          have HE := Lib.hid (put_text HS.out HT.out hk hl.out (fun x hx => by
            rw [hg.out] at hx
            simp at hx
            subst hx
            have : (s[k].toNat : Int) ≠ c.toNat := fun e => h2 (u8int.1 e)
            omega))
          clear h2
          go_wp2_with fail
          go_quiet (fail)
          go_wp2_with fail
          go_quiet (fail)
          go_wp2_with fail
          go_quiet (fail)
          go_wp2_with fail
          go_ret
          exact ⟨by have := HE.out; exact congrArg (fun z => Ending.returned (Value.string z)) this, ⟨_, by simp only [World.drewN_drewN]; rfl⟩⟩
    · have hI : ¬ (k : Int) < (s.size : Int) := by omega
      have hd : decide ((k : Int) < (s.size : Int)) = false := by simp; omega
      have HE := Lib.hid (put_text HS.out HT.out hk hl.out (fun x hx => by
        rw [bl_none s k (by omega)] at hx; cases hx))
      go_wp2_with fail
      go_quiet (fail)
      go_wp2_with fail
      go_quiet (fail)
      go_wp2_with fail
      go_quiet (fail)
      go_wp2_with fail
      go_ret
      exact ⟨by have := HE.out; exact congrArg (fun z => Ending.returned (Value.string z)) this, ⟨_, by simp only [World.drewN_drewN]; rfl⟩⟩

def ledef : TLesson := (⟨#[]⟩, ⟨#[]⟩, [], 0)
/-- The letters of some lessons, one behind another. -/
def knL (l : List TLesson) (z : List Int) : List UInt8 := z.flatMap fun k => bl (l.getD k.toNat ledef).2.1
theorem knL_step {l : List TLesson} {z : List Int} {i p : Nat} {x : TLesson} (hz : z[i]? = some (p : Int)) (hx : l[p]? = some x) : knL l (z.take (i + 1)) = knL l (z.take i) ++ bl x.2.1 := by
  rw [List.take_add_one, hz]
  simp [knL, List.getD_eq_getElem?_getD, hx]
theorem knL_end {l : List TLesson} {z : List Int} {n : Nat} (h : z.length = n) : knL l (z.take n) = knL l z := by rw [List.take_of_length_le (by omega)]
theorem take_bl {s : ByteArray} {k : Nat} (h : k < s.size) : (bl s).take (k + 1) = (bl s).take k ++ [s[k]] := by rw [List.take_add_one, bl_get s k h]; rfl
theorem take_bl_all (s : ByteArray) : (bl s).take s.size = bl s := List.take_of_length_le (by rw [bl_len]; exact Nat.le_refl _)
set_option maxRecDepth 20000 in
set_option maxHeartbeats 4000000 in
theorem c_l18Known (A B : Option Addr) (n c m d : Nat) (l : List TLesson) (z : List Int) (w : World) (ha : Ls w A n l) (hz : Zs w B m z) (hr : risesZ 0 ((n : Int) - 1) z = true) (hsz : LsB l) (hn : n ≤ 1048576) (hm : m ≤ 1048576) :
    Calls Try.prog 39 #[.slice A n c, .slice B m d] w fun e w' => e = .returned (.string (sb (srt (memB (knL l z))))) ∧ Below w.heap.size w w' := by
  have HA := Lib.hid ha
  have HZ := Lib.hid hz
  have HR := Lib.hid hr
  have HSZ := Lib.hid hsz
  have HZL := Lib.hid hz.1
  clear ha hz hr hsz
  go_enter Try.func39, Try.ntmps39
  go_wp2_with fail
  go_loopw [5, 6] (fun v i wr => ∃ k : Nat, k ≤ m ∧ i = .int .i64 k ∧ v = .string (sb (srt (memB (knL l (z.take k))))) ∧ Below w.heap.size w wr) (fun _ i _ => m - (intOf i).toNat)
  case atStart => exact ⟨0, Nat.zero_le _, rfl, rfl, Below.refl _ _⟩
  case round =>
    obtain ⟨k, hk, rfl, rfl, hB⟩ := hrel
    by_cases hlt : k < m
    · obtain ⟨bz, oz, x, rfl, hbz1, hbz2, hx, cz⟩ := z_at HZ.out hB hlt
      obtain ⟨hx0, hx1⟩ := risesZ_bd HR.out hx
      obtain ⟨p, rfl⟩ : ∃ p : Nat, x = p := ⟨x.toNat, by omega⟩
      have hpn : p < n := by omega
      obtain ⟨b, o, nm, lt, S, cc, zz, hh, rfl, hb2, hx2, hK⟩ := les_all HA.out hpn
      obtain ⟨hb1, c0, c1, c2, c3, _⟩ := hK _ hB
      obtain ⟨hs1, hs2, hs3⟩ := HSZ.out _ (List.mem_of_getElem? hx2)
      simp only at hs1 hs2 hs3
      have hpI : (p : Int) < n := by omega
      have HST := Lib.hid (knL_step hx hx2)
      clear hx hx2 hK c0 c2 c3
      unfold maxLen at hs2
      go_wp2_with fail
      go_loopw [5, 8] (fun v i wr => ∃ q : Nat, q ≤ lt.size ∧ i = .int .i64 q ∧ v = .string (sb (srt (memB (knL l (z.take k) ++ (bl lt).take q)))) ∧ Below w.heap.size w wr) (fun _ i _ => lt.size - (intOf i).toNat)
      case atStart => exact ⟨0, Nat.zero_le _, rfl, by simp, hB⟩
      case round =>
        clear hB
        obtain ⟨q, hq, rfl, rfl, hB⟩ := hrel
        by_cases hlt3 : q < lt.size
        · have hq1 : (q : Int) + 1 ≤ lt.size := by omega
          have HT := Lib.hid (bl_one hlt3)
          have HTK := Lib.hid (take_bl hlt3)
          obtain ⟨T, hT⟩ : ∃ T, knL l (z.take k) ++ (bl lt).take q = T := ⟨_, rfl⟩
          rw [hT]
          have HTT := Lib.hid hT
          clear hT
          go_wp2_with (go_at_call 65; refine (c_l02PutLetter _ _ _ T (bl_sb _) HT.out _).mono ?_; rintro e w' ⟨rfl, nd, rfl⟩)
          go_roundw
          case rel => exact ⟨q + 1, by omega, by go_num, by rw [HTK.out, ← List.append_assoc, HTT.out], by (repeat' (first | (with_reducible exact Below.refl _ _) | (with_reducible assumption) | (with_reducible refine below_drewN ?_ _) | (with_reducible refine Below.drew ?_) | (with_reducible refine Below.alloc ?_ ?_ _) | (with_reducible refine Below.setCell ?_ ?_ _) | go_size))⟩
          case measure => simp [intOf]; omega
        · obtain rfl : q = lt.size := by omega
          go_wp2_with fail
          go_roundw
          case rel => exact ⟨k + 1, by omega, by go_num, by rw [HST.out, take_bl_all], hB⟩
          case measure => simp [intOf]; omega
    · obtain rfl : k = m := by omega
      go_wp2_with fail
      go_ret
      exact ⟨by rw [knL_end HZL.out]; rfl, hB⟩
set_option maxRecDepth 20000 in
set_option maxHeartbeats 4000000 in
theorem c_known (A B : Option Addr) (n c m d : Nat) (l : List TLesson) (z : List Int) (w : World) (ha : Ls w A n l) (hz : Zs w B m z) (hr : risesZ 0 ((n : Int) - 1) z = true) (hsz : LsB l) (hn : n ≤ 1048576) (hm : m ≤ 1048576) :
    Calls Try.prog 43 #[.slice A n c, .slice B m d] w fun e w' => e = .returned (.pointer (some ⟨w.heap.size, 0, none⟩)) ∧ w'.rowIs w.heap.size 63 256 (mk (knL l z)) ∧ Below w.heap.size w w' := by
  have HA := Lib.hid ha
  have HZ := Lib.hid hz
  have HR := Lib.hid hr
  have HSZ := Lib.hid hsz
  have HZL := Lib.hid hz.1
  clear ha hz hr hsz
  obtain ⟨Z, nZ, zZ, rZ, sZ, tZ⟩ := zeroBex
  have RZ := Lib.hid (rZ w)
  clear rZ sZ tZ
  go_enter Try.func43, Try.ntmps43
  go_wp2_with fail
  clear zZ
  go_loopw [13] (fun i wr => ∃ k : Nat, k ≤ m ∧ i = .int .i64 k ∧ Below w.heap.size w wr ∧ Hid (wr.rowIs w.heap.size 63 256 (mk (knL l (z.take k))))) (fun i _ => m - (intOf i).toNat)
  case atStart => exact ⟨0, Nat.zero_le _, rfl, by (repeat' (first | (with_reducible exact Below.refl _ _) | (with_reducible assumption) | (with_reducible refine below_drewN ?_ _) | (with_reducible refine Below.drew ?_) | (with_reducible refine Below.alloc ?_ ?_ _) | (with_reducible refine Below.setCell ?_ ?_ _) | go_size)), RZ.out⟩
  case round =>
    obtain ⟨k, hk, rfl, hB, hrow⟩ := hrel
    by_cases hlt : k < m
    · obtain ⟨bz, oz, x, rfl, hbz1, hbz2, hx, cz⟩ := z_at HZ.out hB hlt
      obtain ⟨hx0, hx1⟩ := risesZ_bd HR.out hx
      obtain ⟨p, rfl⟩ : ∃ p : Nat, x = p := ⟨x.toNat, by omega⟩
      have hpn : p < n := by omega
      obtain ⟨b, o, nm, lt, S, cc, zz, hh, rfl, hb2, hx2, hK⟩ := les_all HA.out hpn
      obtain ⟨hb1, c0, c1, c2, c3, _⟩ := hK _ hB
      obtain ⟨hs1, hs2, hs3⟩ := HSZ.out _ (List.mem_of_getElem? hx2)
      simp only at hs1 hs2 hs3
      have hpI : (p : Int) < n := by omega
      have hp0 : (0 : Int) ≤ (p : Int) := by omega
      have HST := Lib.hid (knL_step hx hx2)
      have K := Lib.hid hK
      clear hx hx2 hK c0 c2 c3
      unfold maxLen at hs2
      go_wp2_with fail
      clear c1 hb1
      go_loopw [23] (fun i wr => ∃ q : Nat, q ≤ lt.size ∧ i = .int .i64 q ∧ Below w.heap.size w wr ∧ Hid (wr.rowIs w.heap.size 63 256 (mk (knL l (z.take k) ++ (bl lt).take q)))) (fun i _ => lt.size - (intOf i).toNat)
      case atStart => exact ⟨0, Nat.zero_le _, rfl, hB, by simpa using hrow⟩
      case round =>
        clear hB hrow
        obtain ⟨q, hq, rfl, hB, hrow⟩ := hrel
        have hz := hB.size
        obtain ⟨hb1, c0, c1, _, _, _⟩ := K.out _ hB
        clear c0
        by_cases hlt3 : q < lt.size
        · have hq1 : (q : Int) < lt.size := by omega
          have hq0 : (0 : Int) ≤ (q : Int) := by omega
          have HTK := Lib.hid (take_bl hlt3)
          have hc256 := u8_lt lt[q]
          have hc0 : (0 : Int) ≤ (lt[q].toNat : Int) := by omega
          have hcI : (lt[q].toNat : Int) < 256 := by omega
          obtain ⟨u, r0⟩ : ∃ u, _ = some u := ⟨_, hrow.out.cell hc256⟩
          have f0 := hrow.out.frozen lt[q].toNat
          have hgl := hrow.out.lt
          go_wp2_with fail
          refine wp_region_below_tail 10 (by kernel_rfl) (by kernel_rfl) ?_
          simp only [List.take_succ_cons, List.take_zero, List.drop_succ_cons, List.drop_zero]
          repeat (go_big_quiet_step (fail))
          refine wpQuiet_nil ?_
          intro _ hw'
          obtain ⟨⟨w6, hb6⟩, hw''⟩ := hw'
          subst hw''
          rename World => w6
          have HR6 := Lib.hid (hrow.out.of_block (hb6.block _ hgl))
          have HB6 := Lib.hid (hB.trans (hb6.mono hz))
          obtain ⟨u6, r6⟩ : ∃ u, w6.cell? ⟨w.heap.size, lt[q].toNat, none⟩ = some u := ⟨_, HR6.out.cell hc256⟩
          have f6 := HR6.out.frozen lt[q].toNat
          clear hb6
          go_wp2_with fail
          go_roundw
          case rel => exact ⟨q + 1, by omega, by go_num, HB6.out.setCell (by dsimp only; omega) _, by show World.rowIs _ _ _ _ _; rw [HTK.out, ← List.append_assoc]; exact mk_set HR6.out⟩
          case measure => simp [intOf]; omega
        · obtain rfl : q = lt.size := by omega
          go_wp2_with fail
          go_roundw
          case rel => exact ⟨k + 1, by omega, by go_num, hB, by show World.rowIs _ _ _ _ _; rw [HST.out]; have := hrow.out; rwa [take_bl_all] at this⟩
          case measure => simp [intOf]; omega
    · obtain rfl : k = m := by omega
      go_wp2_with fail
      go_ret
      exact ⟨rfl, by have := hrow.out; rwa [knL_end HZL.out] at this, hB⟩
end Go.Proofs.Ytajcdaclbammaaa
