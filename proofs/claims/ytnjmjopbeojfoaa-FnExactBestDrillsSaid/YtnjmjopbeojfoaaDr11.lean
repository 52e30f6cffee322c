/- Contracts: the drills that train most in a time (the program). -/
import Derived.Test.YtnjmjopbeojfoaaDr10
import Derived.Test.YtnjmjopbeojfoaaCh2
namespace Go.Proofs.Ytnjmjopbeojfoaa
open Go.RowKit Go.BigFrame
attribute [local go_sem] sub_cell sub_frozen drewN_setCell

section
variable {cov mi : List Int → Int} {lim : Int} {n k : Nat} {z b : List Int} {c m : Int}
theorem bestI_no (h : lim < mi (chsN k n)) : bestI cov mi lim n (k + 1) = bestI cov mi lim n k := by simp only [bestI, if_pos h]
theorem bestI_new (h : ¬ lim < mi (chsN k n)) (hs : bestI cov mi lim n k = (b, c, m)) (h2 : c < cov (chsN k n) ∨ cov (chsN k n) = c ∧ (mi (chsN k n) < m ∨ mi (chsN k n) = m ∧ cmpZ (chsN k n) b < 0)) : bestI cov mi lim n (k + 1) = (chsN k n, cov (chsN k n), mi (chsN k n)) := by
  simp only [bestI, if_neg h, hs, updI, if_pos h2]
theorem bestI_old (h : ¬ lim < mi (chsN k n)) (hs : bestI cov mi lim n k = (b, c, m)) (h2 : ¬ (c < cov (chsN k n) ∨ cov (chsN k n) = c ∧ (mi (chsN k n) < m ∨ mi (chsN k n) = m ∧ cmpZ (chsN k n) b < 0))) : bestI cov mi lim n (k + 1) = (b, c, m) := by
  simp only [bestI, if_neg h, hs, updI, if_neg h2]
end
theorem bestI_bd {cov mi : List Int → Int} {lim : Int} {n : Nat} (hc : ∀ s, 0 ≤ cov s ∧ cov s ≤ 1000000) (hm : ∀ j, 0 ≤ mi (chsN j n) ∧ mi (chsN j n) ≤ 1000000) (k : Nat) :
    -1 ≤ (bestI cov mi lim n k).2.1 ∧ (bestI cov mi lim n k).2.1 ≤ 1000000 ∧ 0 ≤ (bestI cov mi lim n k).2.2 ∧ (bestI cov mi lim n k).2.2 ≤ 1000000 := by
  induction k with
  | zero => simp [bestI]
  | succ k ih =>
    simp only [bestI]
    split
    · exact ih
    · unfold updI
      split
      · have := hc (chsN k n)
        have := hm k
        show -1 ≤ cov _ ∧ cov _ ≤ _ ∧ 0 ≤ mi _ ∧ mi _ ≤ _
        omega
      · exact ih
set_option maxRecDepth 20000 in
set_option maxHeartbeats 16000000 in
theorem c_iBestDrills (A D : Option Addr) (n c q e : Nat) (l : List TDrill) (s : ByteArray) (cs : List Int) (lim : Int) (w : World) (ha : Sl drillC w w.heap.size 3 A n l) (hd : Zs w D q cs) (hsz : DrSz l) (hn : n ≤ 1048576) (hq : q ≤ 1048576) (hs : s.size ≤ maxLen) :
    Calls Try.prog 40 #[.slice A n c, .string s, .slice D q e, .int .i64 lim] w (BestPost (bdZ l (bl s) cs lim) (bdV l (bl s) cs lim) (bdC l (bl s) cs lim) w) := by
  have hl := ha.1
  cases g : drsB l
  · obtain ⟨ea, ev, ec⟩ := bd_bad (s := bl s) (cs := cs) (lim := lim) (.inl g)
    rw [ea, ev, ec]
    clear ea ev ec
    have C := Lib.hid (c_iValidDrills A n c l _ g w ha hsz hn)
    clear g ha hd hsz hl
    go_enter Try.func40, Try.ntmps40
    go_wp2_with (go_at_call 23; refine C.out.mono ?_; rintro r_ w1 ⟨rfl, hb1⟩)
    go_returns
    exact BestPost.err hb1
  have C := Lib.hid (c_iValidDrills A n c l _ g w ha hsz hn)
  cases g1 : needB (bl s) cs
  · obtain ⟨ea, ev, ec⟩ := bd_bad (l := l) (s := bl s) (cs := cs) (lim := lim) (.inr g1)
    rw [ea, ev, ec]
    clear ea ev ec
    have D1 := Lib.hid (fun (W : World) (hW : Below w.heap.size w W) => c_iValidNeeds s D q e cs _ g1 W (hd.later hW) hs hq)
    clear g g1 ha hd hsz hl
    go_enter Try.func40, Try.ntmps40
    go_wp2_with (first | (go_at_call 23; refine C.out.mono ?_; rintro r_ w1 ⟨rfl, hb1⟩) | (go_at_call 14; refine (D1.out _ hb1).mono ?_; rintro r_ w2 ⟨rfl, nd, rfl⟩))
    go_returns
    exact BestPost.err (below_drewN hb1 _)
  have D1 := Lib.hid (fun (W : World) (hW : Below w.heap.size w W) => c_iValidNeeds s D q e cs _ g1 W (hd.later hW) hs hq)
  obtain ⟨hcnt, hlen⟩ := need_ok g1
  have hlz := hd.1
  have hsq : s.size = q := by omega
  have hs30 : s.size ≤ 30 := need_len (by simp only [needB, Bool.and_eq_true] at g1; exact g1.2.1)
  have hn10 := (drs_ok g).1
  rw [hl] at hn10
  cases g2 : betw lim 0 6000
  · obtain ⟨ea, ev, ec⟩ := bd_rng g g1 g2
    rw [ea, ev, ec]
    clear ea ev ec
    have G2 := Lib.hid g2
    clear g g1 g2 ha hd hsz hl hcnt hlen hsq hlz
    go_enter Try.func40, Try.ntmps40
    go_wp2_with (first | (go_at_call 23; refine C.out.mono ?_; rintro r_ w1 ⟨rfl, hb1⟩) | (go_at_call 14; refine (D1.out _ hb1).mono ?_; rintro r_ w2 ⟨rfl, nd, rfl⟩; have hb2 := below_drewN hb1 nd) | (go_at_call 42; refine (c_between _ _ _ _ G2.out _).mono ?_; rintro r_ w3 ⟨rfl, rfl⟩))
    go_returns
    exact BestPost.err hb2
  obtain ⟨ea, ev, ec⟩ := bd_ok g g1 g2
  rw [ea, ev, ec]
  clear ea ev ec
  have hlim := betw_true g2
  have HBD := Lib.hid (bdS_best (s := bl s) (lim := lim) g hcnt hlim.1)
  rw [hl] at HBD
  obtain ⟨COV, hCOV⟩ : ∃ COV : List Int → Int, (fun z => covS l z (bl s) cs) = COV := ⟨_, rfl⟩
  have hcv : ∀ z, 0 ≤ COV z ∧ COV z ≤ 1000000 := fun z => by
    rw [← hCOV]
    have := covN_bd (l := l) (z := z) (ls := bl s) hcnt (bl s).length
    have h2 := this.2
    rw [bl_len] at h2
    exact ⟨this.1, by show covN _ _ _ _ _ ≤ _; rw [bl_len]; omega⟩
  have hmv : ∀ j, 0 ≤ minS l (chsN j n) ∧ minS l (chsN j n) ≤ 1000000 := fun j => by
    have h1 := minS_bd g (chsN j n)
    have h2 := chsN_len j n
    omega
  have HCV := Lib.hid (fun (S : Option Addr) (sn d : Nat) (k : Nat) (W : World) (hW : Below w.heap.size w W) (base : Nat) (o1 : W.ownsRow base 2 1 (.slice S sn d) sn ((chsN k n).map (Value.int .i64))) (hsn : sn ≤ 10) =>
    (congrFun hCOV (chsN k n)) ▸ c_covered A S D n c sn d q e l (chsN k n) s cs W (ha.later hW) (zs_ownN o1) (hd.later hW) hsz (chs_idx k n) hcnt hsq (by omega) (by omega) (by omega))
  have HMV := Lib.hid (fun (S : Option Addr) (sn d : Nat) (k : Nat) (W : World) (hW : Below w.heap.size w W) (base : Nat) (o1 : W.ownsRow base 2 1 (.slice S sn d) sn ((chsN k n).map (Value.int .i64))) (hsn : sn ≤ 10) =>
    c_minutesOf A S n c sn d l (chsN k n) W (ha.later hW) (zs_ownN o1) g (chs_idx k n) (by omega) (by omega))
  rw [hCOV] at HBD
  have hpw := pow_bd (n := n) (by omega)
  have hsh := shl_one (n := n) (by omega)
  obtain ⟨K, hK⟩ : ∃ K, 2 ^ n = K := ⟨_, rfl⟩
  rw [hK] at hsh hpw HBD
  have G2 := Lib.hid g2
  have HCB := Lib.hid hcv
  have HMB := Lib.hid hmv
  clear g g1 g2 ha hd hsz hl hcnt hlen hsq hlz hK hCOV hcv hmv hlim
  go_enter Try.func40, Try.ntmps40
  go_wp2_with (first | (go_at_call 23; refine C.out.mono ?_; rintro r_ w1 ⟨rfl, hb1⟩) | (go_at_call 14; refine (D1.out _ hb1).mono ?_; rintro r_ w2 ⟨rfl, nd, rfl⟩; have hb2 := below_drewN hb1 nd; have hz2 := hb2.size) | (go_at_call 42; refine (c_between _ _ _ _ G2.out _).mono ?_; rintro r_ w3 ⟨rfl, rfl⟩))
  go_loopw [11, 12, 13, 14, 15, 16, 17, 18, 35] (fun v x y _ _ _ _ _ i wr => ∃ (k : Nat) (bz : List Int) (cm lm : Int), k ≤ K ∧ i = .int .i64 k ∧ x = .int .i64 cm ∧ y = .int .i64 lm ∧ Below w.heap.size w wr ∧ Hid (wr.ownsRow w.heap.size 2 1 v bz.length (bz.map (Value.int .i64))) ∧ -1 ≤ cm ∧ cm ≤ 1000000 ∧ 0 ≤ lm ∧ lm ≤ 1000000 ∧ Hid (bestI COV (minS l) lim n k = (bz, cm, lm))) (fun _ _ _ _ _ _ _ _ i _ => K - (intOf i).toNat)
  case atStart => exact ⟨0, [], -1, 0, Nat.zero_le _, rfl, rfl, rfl, by (repeat' (first | (with_reducible exact Below.refl _ _) | (with_reducible assumption) | (with_reducible refine below_drewN ?_ _) | (with_reducible refine Below.drew ?_) | (with_reducible refine Below.alloc ?_ ?_ _) | (with_reducible refine Below.setCell ?_ ?_ _) | go_size)), World.ownsRow_made _ _ 0 hz2 (by simp [maxLen]) rfl, by omega, by omega, by omega, by omega, rfl⟩
  case round =>
    clear hb1 hb2 hsh
    obtain ⟨k, bz, cm, lm, hk, rfl, rfl, rfl, hB, hown, hcm0, hcm1, hlm0, hlm1, hinv⟩ := hrel
    have hz1 := hB.size
    obtain ⟨bn, hbn⟩ : ∃ bn, bz.length = bn := ⟨_, rfl⟩
    rw [hbn] at hown
    have HBN := Lib.hid hbn
    clear hbn
    obtain ⟨A0, c0, rfl⟩ := own_slice hown.out
    by_cases hlt : k < K
    · obtain ⟨sn, hsn⟩ : ∃ sn, (chsN k n).length = sn := ⟨_, rfl⟩
      have hsn10 := chsN_len k n
      rw [hsn] at hsn10
      have HSN := Lib.hid hsn
      obtain ⟨tm, htm⟩ : ∃ tm, minS l (chsN k n) = tm := ⟨_, rfl⟩
      obtain ⟨sm, hsm⟩ : ∃ sm, COV (chsN k n) = sm := ⟨_, rfl⟩
      have ht0 := (HMB.out k).1
      have ht1 := (HMB.out k).2
      have hs0 := (HCB.out (chsN k n)).1
      have hs1 := (HCB.out (chsN k n)).2
      rw [htm] at ht0 ht1
      rw [hsm] at hs0 hs1
      have HMV2 := Lib.hid (fun (S : Option Addr) (d : Nat) (W : World) (hW : Below w.heap.size w W) (o1 : W.ownsRow wr.heap.size 2 1 (.slice S sn d) sn ((chsN k n).map (Value.int .i64))) => htm ▸ HMV.out S sn d k W hW _ o1 (by omega))
      have HCV2 := Lib.hid (fun (S : Option Addr) (d : Nat) (W : World) (hW : Below w.heap.size w W) (o1 : W.ownsRow wr.heap.size 2 1 (.slice S sn d) sn ((chsN k n).map (Value.int .i64))) => hsm ▸ HCV.out S sn d k W hW _ o1 (by omega))
      have hbn10 : bn ≤ 1048576 := by
        have := bestI_len COV (minS l) lim n k
        rw [hinv.out] at this
        have := HBN.out
        simp only at *
        omega
      by_cases hlim : lim < tm
      · have E : Hid (bestI COV (minS l) lim n (k + 1) = (bz, cm, lm)) := (bestI_no (cov := COV) (mi := minS l) (by rw [htm]; exact hlim)).trans hinv.out
        clear hsn htm hsm hinv
        go_wp2_with (first | (go_at_call 63; refine (c_chosen k n _ (by omega) (by omega)).mono ?_; intro r_ w3 h_; obtain ⟨A1, c1, rfl, o1, b1⟩ := ZsPost.elim h_ HSN.out; have hz3 := b1.size; have B1 := Lib.hid (hB.trans (b1.mono hz1)); have O1 := Lib.hid o1; have OB := Lib.hid (own_below hown.out b1); clear h_ o1 b1) | (go_at_call 54; refine (HMV2.out _ _ _ B1.out O1.out).mono ?_; rintro r_ w4 ⟨rfl, rfl⟩))
        go_roundw
        case rel => first | exact ⟨k + 1, bz, cm, lm, by omega, by go_num, rfl, rfl, B1.out, by show World.ownsRow _ _ _ _ _ _ _; rw [HBN.out]; exact OB.out, by omega, by omega, by omega, by omega, E.out⟩ | ((repeat apply Exists.intro); exact ⟨⟨k + 1, bz, cm, lm, by omega, by go_num, rfl, rfl, B1.out, by show World.ownsRow _ _ _ _ _ _ _; rw [HBN.out]; exact OB.out, by omega, by omega, by omega, by omega, E.out⟩, rfl⟩)
        case measure => simp [intOf]; omega
      have hnew : (cm < sm ∨ sm = cm ∧ (tm < lm ∨ tm = lm ∧ cmpZ (chsN k n) bz < 0)) → Hid (bestI COV (minS l) lim n (k + 1) = (chsN k n, sm, tm)) := fun h => by
        have := bestI_new (cov := COV) (mi := minS l) (by rw [htm]; exact hlim) hinv.out (by rw [htm, hsm]; exact h)
        rw [htm, hsm] at this
        exact this
      have hold : ¬ (cm < sm ∨ sm = cm ∧ (tm < lm ∨ tm = lm ∧ cmpZ (chsN k n) bz < 0)) → Hid (bestI COV (minS l) lim n (k + 1) = (bz, cm, lm)) := fun h =>
        bestI_old (cov := COV) (mi := minS l) (by rw [htm]; exact hlim) hinv.out (by rw [htm, hsm]; exact h)
      clear hsn htm hsm hinv
      by_cases h1 : cm < sm
      · have hne : (sm == cm) = false := by rw [beq_eq_false_iff_ne]; omega
        have E : Hid (bestI COV (minS l) lim n (k + 1) = _) := hnew (.inl h1)
        clear hnew hold
        go_wp2_with (first | (go_at_call 63; refine (c_chosen k n _ (by omega) (by omega)).mono ?_; intro r_ w3 h_; obtain ⟨A1, c1, rfl, o1, b1⟩ := ZsPost.elim h_ HSN.out; have hz3 := b1.size; have B1 := Lib.hid (hB.trans (b1.mono hz1)); have O1 := Lib.hid o1; have OB := Lib.hid (own_below hown.out b1); clear h_ o1 b1) | (go_at_call 54; refine (HMV2.out _ _ _ B1.out O1.out).mono ?_; rintro r_ w4 ⟨rfl, rfl⟩) | (go_at_call 61; refine (HCV2.out _ _ _ B1.out O1.out).mono ?_; rintro r_ w5 ⟨rfl, b5⟩; have B5 := Lib.hid (B1.out.trans (b5.mono B1.out.size)); have O5 := Lib.hid (own_below O1.out b5); have OB5 := Lib.hid (own_below OB.out b5); clear b5))
        go_roundw
        case rel => first | exact ⟨k + 1, chsN k n, sm, tm, by omega, by go_num, rfl, rfl, B5.out, by show World.ownsRow _ _ _ _ _ _ _; rw [HSN.out]; exact own_base O5.out hz1, by omega, by omega, by omega, by omega, E.out⟩ | ((repeat apply Exists.intro); exact ⟨⟨k + 1, chsN k n, sm, tm, by omega, by go_num, rfl, rfl, B5.out, by show World.ownsRow _ _ _ _ _ _ _; rw [HSN.out]; exact own_base O5.out hz1, by omega, by omega, by omega, by omega, E.out⟩, rfl⟩)
        case measure => simp [intOf]; omega
      by_cases h2 : sm = cm
      rotate_left
      · have hne : (sm == cm) = false := by rw [beq_eq_false_iff_ne]; exact h2
        have E : Hid (bestI COV (minS l) lim n (k + 1) = _) := hold (fun h => h.elim h1 (fun h => h2 h.1))
        clear h2
        clear hnew hold
        go_wp2_with (first | (go_at_call 63; refine (c_chosen k n _ (by omega) (by omega)).mono ?_; intro r_ w3 h_; obtain ⟨A1, c1, rfl, o1, b1⟩ := ZsPost.elim h_ HSN.out; have hz3 := b1.size; have B1 := Lib.hid (hB.trans (b1.mono hz1)); have O1 := Lib.hid o1; have OB := Lib.hid (own_below hown.out b1); clear h_ o1 b1) | (go_at_call 54; refine (HMV2.out _ _ _ B1.out O1.out).mono ?_; rintro r_ w4 ⟨rfl, rfl⟩) | (go_at_call 61; refine (HCV2.out _ _ _ B1.out O1.out).mono ?_; rintro r_ w5 ⟨rfl, b5⟩; have B5 := Lib.hid (B1.out.trans (b5.mono B1.out.size)); have O5 := Lib.hid (own_below O1.out b5); have OB5 := Lib.hid (own_below OB.out b5); clear b5))
        go_roundw
        case rel => first | exact ⟨k + 1, bz, cm, lm, by omega, by go_num, rfl, rfl, B5.out, by show World.ownsRow _ _ _ _ _ _ _; rw [HBN.out]; exact OB5.out, by omega, by omega, by omega, by omega, E.out⟩ | ((repeat apply Exists.intro); exact ⟨⟨k + 1, bz, cm, lm, by omega, by go_num, rfl, rfl, B5.out, by show World.ownsRow _ _ _ _ _ _ _; rw [HBN.out]; exact OB5.out, by omega, by omega, by omega, by omega, E.out⟩, rfl⟩)
        case measure => simp [intOf]; omega
      have heq : (sm == cm) = true := by rw [h2]; exact beq_self_eq_true _
      by_cases h3 : tm < lm
      · have hne2 : (tm == lm) = false := by rw [beq_eq_false_iff_ne]; omega
        have E : Hid (bestI COV (minS l) lim n (k + 1) = _) := hnew (.inr ⟨h2, .inl h3⟩)
        clear h2
        clear hnew hold
        go_wp2_with (first | (go_at_call 63; refine (c_chosen k n _ (by omega) (by omega)).mono ?_; intro r_ w3 h_; obtain ⟨A1, c1, rfl, o1, b1⟩ := ZsPost.elim h_ HSN.out; have hz3 := b1.size; have B1 := Lib.hid (hB.trans (b1.mono hz1)); have O1 := Lib.hid o1; have OB := Lib.hid (own_below hown.out b1); clear h_ o1 b1) | (go_at_call 54; refine (HMV2.out _ _ _ B1.out O1.out).mono ?_; rintro r_ w4 ⟨rfl, rfl⟩) | (go_at_call 61; refine (HCV2.out _ _ _ B1.out O1.out).mono ?_; rintro r_ w5 ⟨rfl, b5⟩; have B5 := Lib.hid (B1.out.trans (b5.mono B1.out.size)); have O5 := Lib.hid (own_below O1.out b5); have OB5 := Lib.hid (own_below OB.out b5); clear b5))
        go_roundw
        case rel => first | exact ⟨k + 1, chsN k n, sm, tm, by omega, by go_num, rfl, rfl, B5.out, by show World.ownsRow _ _ _ _ _ _ _; rw [HSN.out]; exact own_base O5.out hz1, by omega, by omega, by omega, by omega, E.out⟩ | ((repeat apply Exists.intro); exact ⟨⟨k + 1, chsN k n, sm, tm, by omega, by go_num, rfl, rfl, B5.out, by show World.ownsRow _ _ _ _ _ _ _; rw [HSN.out]; exact own_base O5.out hz1, by omega, by omega, by omega, by omega, E.out⟩, rfl⟩)
        case measure => simp [intOf]; omega
      by_cases h4 : tm = lm
      rotate_left
      · have hne2 : (tm == lm) = false := by rw [beq_eq_false_iff_ne]; exact h4
        have E : Hid (bestI COV (minS l) lim n (k + 1) = _) := hold (fun h => h.elim h1 (fun h => h.2.elim h3 (fun h => h4 h.1)))
        clear h2 h4
        clear hnew hold
        go_wp2_with (first | (go_at_call 63; refine (c_chosen k n _ (by omega) (by omega)).mono ?_; intro r_ w3 h_; obtain ⟨A1, c1, rfl, o1, b1⟩ := ZsPost.elim h_ HSN.out; have hz3 := b1.size; have B1 := Lib.hid (hB.trans (b1.mono hz1)); have O1 := Lib.hid o1; have OB := Lib.hid (own_below hown.out b1); clear h_ o1 b1) | (go_at_call 54; refine (HMV2.out _ _ _ B1.out O1.out).mono ?_; rintro r_ w4 ⟨rfl, rfl⟩) | (go_at_call 61; refine (HCV2.out _ _ _ B1.out O1.out).mono ?_; rintro r_ w5 ⟨rfl, b5⟩; have B5 := Lib.hid (B1.out.trans (b5.mono B1.out.size)); have O5 := Lib.hid (own_below O1.out b5); have OB5 := Lib.hid (own_below OB.out b5); clear b5))
        go_roundw
        case rel => first | exact ⟨k + 1, bz, cm, lm, by omega, by go_num, rfl, rfl, B5.out, by show World.ownsRow _ _ _ _ _ _ _; rw [HBN.out]; exact OB5.out, by omega, by omega, by omega, by omega, E.out⟩ | ((repeat apply Exists.intro); exact ⟨⟨k + 1, bz, cm, lm, by omega, by go_num, rfl, rfl, B5.out, by show World.ownsRow _ _ _ _ _ _ _; rw [HBN.out]; exact OB5.out, by omega, by omega, by omega, by omega, E.out⟩, rfl⟩)
        case measure => simp [intOf]; omega
      have heq2 : (tm == lm) = true := by rw [h4]; exact beq_self_eq_true _
      obtain ⟨v, hv⟩ : ∃ v, cmpZ (chsN k n) bz = v := ⟨_, rfl⟩
      have HCM := Lib.hid (fun (S : Option Addr) (d : Nat) (W : World) (o1 : W.ownsRow wr.heap.size 2 1 (.slice S sn d) sn ((chsN k n).map (Value.int .i64))) (o2 : W.ownsRow w.heap.size 2 1 (.slice A0 bn c0) bn (bz.map (Value.int .i64))) => hv ▸ c_compareNumbers S A0 sn bn d c0 (chsN k n) bz W (zs_ownN o1) (zs_ownN o2) (by omega) (by omega))
      rw [hv] at hnew hold
      clear hv
      by_cases h5 : v < 0
      · have E : Hid (bestI COV (minS l) lim n (k + 1) = _) := hnew (.inr ⟨h2, .inr ⟨h4, h5⟩⟩)
        clear h2 h4
        clear hnew hold
        go_wp2_with (first | (go_at_call 63; refine (c_chosen k n _ (by omega) (by omega)).mono ?_; intro r_ w3 h_; obtain ⟨A1, c1, rfl, o1, b1⟩ := ZsPost.elim h_ HSN.out; have hz3 := b1.size; have B1 := Lib.hid (hB.trans (b1.mono hz1)); have O1 := Lib.hid o1; have OB := Lib.hid (own_below hown.out b1); clear h_ o1 b1) | (go_at_call 54; refine (HMV2.out _ _ _ B1.out O1.out).mono ?_; rintro r_ w4 ⟨rfl, rfl⟩) | (go_at_call 61; refine (HCV2.out _ _ _ B1.out O1.out).mono ?_; rintro r_ w5 ⟨rfl, b5⟩; have B5 := Lib.hid (B1.out.trans (b5.mono B1.out.size)); have O5 := Lib.hid (own_below O1.out b5); have OB5 := Lib.hid (own_below OB.out b5); clear b5) | (go_at_call 64; refine (HCM.out _ _ _ O5.out OB5.out).mono ?_; rintro r_ w6 ⟨rfl, nd6, rfl⟩))
        go_roundw
        case rel => first | exact ⟨k + 1, chsN k n, sm, tm, by omega, by go_num, rfl, rfl, (below_drewN B5.out nd6), by show World.ownsRow _ _ _ _ _ _ _; rw [HSN.out]; exact own_base (own_below O5.out (below_drewN (Below.refl _ _) nd6)) hz1, by omega, by omega, by omega, by omega, E.out⟩ | ((repeat apply Exists.intro); exact ⟨⟨k + 1, chsN k n, sm, tm, by omega, by go_num, rfl, rfl, (below_drewN B5.out nd6), by show World.ownsRow _ _ _ _ _ _ _; rw [HSN.out]; exact own_base (own_below O5.out (below_drewN (Below.refl _ _) nd6)) hz1, by omega, by omega, by omega, by omega, E.out⟩, rfl⟩)
        case measure => simp [intOf]; omega
      · have E : Hid (bestI COV (minS l) lim n (k + 1) = _) := hold (fun h => h.elim h1 (fun h => h.2.elim h3 (fun h => h5 h.2)))
        clear h2 h4
        clear hnew hold
        go_wp2_with (first | (go_at_call 63; refine (c_chosen k n _ (by omega) (by omega)).mono ?_; intro r_ w3 h_; obtain ⟨A1, c1, rfl, o1, b1⟩ := ZsPost.elim h_ HSN.out; have hz3 := b1.size; have B1 := Lib.hid (hB.trans (b1.mono hz1)); have O1 := Lib.hid o1; have OB := Lib.hid (own_below hown.out b1); clear h_ o1 b1) | (go_at_call 54; refine (HMV2.out _ _ _ B1.out O1.out).mono ?_; rintro r_ w4 ⟨rfl, rfl⟩) | (go_at_call 61; refine (HCV2.out _ _ _ B1.out O1.out).mono ?_; rintro r_ w5 ⟨rfl, b5⟩; have B5 := Lib.hid (B1.out.trans (b5.mono B1.out.size)); have O5 := Lib.hid (own_below O1.out b5); have OB5 := Lib.hid (own_below OB.out b5); clear b5) | (go_at_call 64; refine (HCM.out _ _ _ O5.out OB5.out).mono ?_; rintro r_ w6 ⟨rfl, nd6, rfl⟩))
        go_roundw
        case rel => first | exact ⟨k + 1, bz, cm, lm, by omega, by go_num, rfl, rfl, (below_drewN B5.out nd6), by show World.ownsRow _ _ _ _ _ _ _; rw [HBN.out]; exact (own_below OB5.out (below_drewN (Below.refl _ _) nd6)), by omega, by omega, by omega, by omega, E.out⟩ | ((repeat apply Exists.intro); exact ⟨⟨k + 1, bz, cm, lm, by omega, by go_num, rfl, rfl, (below_drewN B5.out nd6), by show World.ownsRow _ _ _ _ _ _ _; rw [HBN.out]; exact (own_below OB5.out (below_drewN (Below.refl _ _) nd6)), by omega, by omega, by omega, by omega, E.out⟩, rfl⟩)
        case measure => simp [intOf]; omega
    · obtain rfl : k = K := by omega
      have hR := HBD.out.symm.trans hinv.out
      have HR := Lib.hid hR
      clear hR hinv
      go_wp2_with fail
      go_returns
      rw [HR.out]
      exact BestPost.mk_ HBN.out hown.out hB
end Go.Proofs.Ytnjmjopbeojfoaa
