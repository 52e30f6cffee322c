/- Contracts: NextLessons. -/
import Derived.Test.YtajcdaclbammaaaCi0
import Derived.Test.YtajcdaclbammaaaUn
namespace Go.Proofs.Ytajcdaclbammaaa
open Go.RowKit Go.BigFrame
attribute [local go_sem] sub_cell sub_frozen drewN_setCell

theorem IntsPost.err {code : Int} {w w' : World} (hb : Below w.heap.size w w') : IntsPost [] code w (.returned (.tuple #[.slice none 0 0, .int .i64 code])) w' :=
  ⟨none, 0, rfl, ⟨rfl, .inl ⟨rfl, rfl⟩⟩, hb⟩
theorem can_has {N : Int → List Int} {S : List Int} {k : Int} (h : k ∈ S) : canB N S k = false := by simp [canB, h]
theorem can_lack {N : Int → List Int} {S : List Int} {k x : Int} (hx : x ∈ N k) (h : x ∉ S) : canB N S k = false := by
  simp only [canB, Bool.and_eq_false_iff]
  right
  rw [List.all_eq_false]
  exact ⟨x, hx, by simpa using h⟩
theorem can_all {N : Int → List Int} {S : List Int} {k : Int} (h : k ∉ S) (ha : ∀ x ∈ N k, x ∈ S) : canB N S k = true := by
  simp only [canB, Bool.and_eq_true, decide_eq_true_eq, List.all_eq_true]
  exact ⟨h, ha⟩
theorem in_step {S zz : List Int} {j : Nat} {y : Int} (h : ∀ a ∈ zz.take j, a ∈ S) (hy : zz[j]? = some y) (hm : y ∈ S) : ∀ a ∈ zz.take (j + 1), a ∈ S := by
  intro a ha
  rw [List.take_add_one, hy] at ha
  rcases List.mem_append.1 ha with h1 | h1
  · exact h a h1
  · simp at h1; rw [h1]; exact hm
set_option maxRecDepth 20000 in
set_option maxHeartbeats 4000000 in
theorem c_l18Can (A B : Option Addr) (n c m d : Nat) (l : List TLesson) (z : List Int) (k : Nat) (r : Bool) (h : canB (needsL l) z (k : Int) = r) (w : World) (ha : Ls w A n l) (hz : Zs w B m z) (hk : k < n) (hzb : (needsL l (k : Int)).length ≤ 1048576) (hn : n ≤ 1048576) (hm : m ≤ 1048576) :
    Calls Try.prog 46 #[.slice A n c, .slice B m d, .int .i64 (k : Int)] w fun e w' => e = .returned (.bool r) ∧ w = w' := by
  subst h
  have HZ := Lib.hid hz
  obtain ⟨b, o, nm, lt, S, cc, zz, hr, rfl, hb2, hx, hK⟩ := les_all ha hk
  obtain ⟨hb1, c0, c1, c2, c3, hzz⟩ := hK _ (Below.refl _ _)
  have HND := Lib.hid (needsL_at hx)
  simp only at HND
  have HZZ := Lib.hid hzz
  have hkI : (k : Int) < n := by omega
  have hk0 : (0 : Int) ≤ (k : Int) := by omega
  have hmm : m ≤ 4611686018427387904 := by omega
  rw [HND.out] at hzb
  clear hz hx hK c0 c1 c3 hzz ha
  cases h1 : hasZ z (k : Int)
  · have H1 := Lib.hid h1
    have HNK : Hid ((k : Int) ∉ z) := by show ¬ _; simpa [hasZ] using h1
    clear h1
    go_enter Try.func46, Try.ntmps46
    go_wp2_with (go_at_call 59; refine (c_l00Has _ _ _ z _ _ H1.out _ HZ.out hmm).mono ?_; rintro e w' ⟨rfl, rfl⟩)
    go_loop [7] (fun i => ∃ j : Nat, j ≤ zz.length ∧ i = .int .i64 j ∧ Hid (∀ a ∈ zz.take j, a ∈ z)) (fun i => zz.length - (intOf i).toNat)
    case atStart => exact ⟨0, Nat.zero_le _, rfl, Lib.hid (by simp)⟩
    case round =>
      obtain ⟨j, hj, rfl, hal⟩ := hrel
      by_cases hlt : j < zz.length
      · obtain ⟨bz, oz, y, hAz, hbz1, hbz2, hy, cz⟩ := z_at HZZ.out (Below.refl _ _) hlt
        subst hAz
        have HY := Lib.hid hy
        have hjI : (j : Int) < zz.length := by omega
        clear hy
        cases h2 : hasZ z y
        · have H2 := Lib.hid h2
          have HF : Hid (canB (needsL l) z (k : Int) = false) := can_lack (x := y) (by rw [HND.out]; exact List.mem_of_getElem? HY.out) (by simpa [hasZ] using h2)
          clear h2
          go_wp2_with (go_at_call 59; refine (c_l00Has _ _ _ z _ _ H2.out _ HZ.out hmm).mono ?_; rintro e w' ⟨rfl, rfl⟩)
          go_ret
          exact ⟨by rw [HF.out]; rfl, rfl⟩
        · have H2 := Lib.hid h2
          have HM : Hid (y ∈ z) := by show _ ∈ _; simpa [hasZ] using h2
          clear h2
          go_wp2_with (go_at_call 59; refine (c_l00Has _ _ _ z _ _ H2.out _ HZ.out hmm).mono ?_; rintro e w' ⟨rfl, rfl⟩)
          go_round
          case rel => exact ⟨j + 1, by omega, by go_num, in_step hal.out HY.out HM.out⟩
          case measure => simp [intOf]; omega
      · have HF : Hid (canB (needsL l) z (k : Int) = true) := can_all HNK.out (fun x hx => by
          rw [HND.out] at hx
          exact hal.out x (by rw [List.take_of_length_le (by omega)]; exact hx))
        go_wp2_with fail
        go_ret
        exact ⟨by rw [HF.out]; rfl, rfl⟩
  · have H1 := Lib.hid h1
    have HF : Hid (canB (needsL l) z (k : Int) = false) := can_has (by simpa [hasZ] using h1)
    clear h1
    go_enter Try.func46, Try.ntmps46
    go_wp2_with (go_at_call 59; refine (c_l00Has _ _ _ z _ _ H1.out _ HZ.out hmm).mono ?_; rintro e w' ⟨rfl, rfl⟩)
    go_ret
    exact ⟨by rw [HF.out]; rfl, rfl⟩
set_option maxRecDepth 20000 in
set_option maxHeartbeats 4000000 in
theorem c_marks (B : Option Addr) (m d n : Nat) (z : List Int) (w : World) (hz : Zs w B m z) (hbd : ∀ x ∈ z, (0 : Int) ≤ x ∧ x < n) (hn : n ≤ 1048576) (hm : m ≤ 1048576) :
    Calls Try.prog 47 #[.slice B m d, .int .i64 (n : Int)] w fun e w' => e = .returned (.slice (some ⟨w.heap.size, 0, none⟩) n n) ∧ RowB w' w.heap.size n (mkB n z) ∧ Below w.heap.size w w' := by
  have HZ := Lib.hid hz
  have HZL := Lib.hid hz.1
  have HBD := Lib.hid hbd
  have hmk := run_makeB n hn
  clear hz hbd
  go_enter Try.func47, Try.ntmps47
  go_wp2_with fail
  clear hmk
  go_loopw [12] (fun i wr => ∃ k : Nat, k ≤ m ∧ i = .int .i64 k ∧ Below w.heap.size w wr ∧ Hid (RowB wr w.heap.size n (mkB n (z.take k)))) (fun i _ => m - (intOf i).toNat)
  case atStart => exact ⟨0, Nat.zero_le _, rfl, by (repeat' (first | (with_reducible exact Below.refl _ _) | (with_reducible assumption) | (with_reducible refine below_drewN ?_ _) | (with_reducible refine Below.drew ?_) | (with_reducible refine Below.alloc ?_ ?_ _) | (with_reducible refine Below.setCell ?_ ?_ _) | go_size)), by show RowB _ _ _ _; rw [List.take_zero, mkB_nil]; exact RowB.made w n⟩
  case round =>
    obtain ⟨k, hk, rfl, hB, hrow⟩ := hrel
    by_cases hlt : k < m
    · obtain ⟨b, o, x, rfl, hb1, hb2, hx, c0⟩ := z_at HZ.out hB hlt
      obtain ⟨hx0, hx1⟩ := HBD.out x (List.mem_of_getElem? hx)
      obtain ⟨p, rfl⟩ : ∃ p : Nat, x = p := ⟨x.toNat, by omega⟩
      have hpn : p < n := by omega
      have hpI : (p : Int) < n := by omega
      have hp0 : (0 : Int) ≤ (p : Int) := by omega
      obtain ⟨v0, r0⟩ : ∃ v, wr.cell? ⟨w.heap.size, p, none⟩ = some v := ⟨_, hrow.out.cell hpn⟩
      have f0 := hrow.out.frozen p
      have hgl := hrow.out.lt
      have HE : Hid (z.take (k + 1) = z.take k ++ [(p : Int)]) := by show _ = _; rw [List.take_add_one, hx]; rfl
      have HS : Hid (RowB (wr.setCell ⟨w.heap.size, p, none⟩ (.bool true)) w.heap.size n (mkB n (z.take k ++ [(p : Int)]))) := by have := hrow.out.set p true; rwa [mkB_set] at this
      clear hx
      go_wp2_with fail
      go_roundw
      case rel => exact ⟨k + 1, by omega, by go_num, hB.setCell (by dsimp only; omega) _, by show RowB _ _ _ _; rw [HE.out]; exact HS.out⟩
      case measure => simp [intOf]; omega
    · have HE : Hid (z.take k = z) := by show _ = _; rw [List.take_of_length_le]; have := HZL.out; omega
      go_wp2_with fail
      go_ret
      exact ⟨rfl, by have := hrow.out; rwa [HE.out] at this, hB⟩
set_option maxRecDepth 20000 in
set_option maxHeartbeats 4000000 in
theorem c_allIn (B : Option Addr) (m d n g : Nat) (zz S : List Int) (r : Bool) (hr : (zz.all fun x => decide (x ∈ S)) = r) (w : World) (hz : Zs w B m zz) (hR : RowB w g n (mkB n S)) (hbd : ∀ x ∈ zz, (0 : Int) ≤ x ∧ x < n) (hn : n ≤ 1048576) (hm : m ≤ 1048576) :
    Calls Try.prog 48 #[.slice B m d, .slice (some ⟨g, 0, none⟩) n n] w fun e w' => e = .returned (.bool r) ∧ w = w' := by
  subst hr
  have HZ := Lib.hid hz
  have HZL := Lib.hid hz.1
  have HBD := Lib.hid hbd
  have HR := Lib.hid hR
  have hgl := hR.lt
  clear hz hbd hR
  go_enter Try.func48, Try.ntmps48
  go_wp2_with fail
  go_loop [9] (fun i => ∃ k : Nat, k ≤ m ∧ i = .int .i64 k ∧ Hid (∀ a ∈ zz.take k, a ∈ S)) (fun i => m - (intOf i).toNat)
  case atStart => exact ⟨0, Nat.zero_le _, rfl, Lib.hid (by simp)⟩
  case round =>
    obtain ⟨k, hk, rfl, hal⟩ := hrel
    by_cases hlt : k < m
    · obtain ⟨b, o, x, rfl, hb1, hb2, hx, c0⟩ := z_at HZ.out (Below.refl _ _) hlt
      obtain ⟨hx0, hx1⟩ := HBD.out x (List.mem_of_getElem? hx)
      obtain ⟨p, rfl⟩ : ∃ p : Nat, x = p := ⟨x.toNat, by omega⟩
      have hpn : p < n := by omega
      have hpI : (p : Int) < n := by omega
      have hp0 : (0 : Int) ≤ (p : Int) := by omega
      have r0 := HR.out.cell hpn
      rw [mkB_get S hpn] at r0
      have HX := Lib.hid hx
      clear hx
      by_cases hin : (p : Int) ∈ S
      · rw [decide_eq_true hin] at r0
        have HIN := Lib.hid hin
        clear hin
        go_wp2_with fail
        go_round
        case rel => exact ⟨k + 1, by omega, by go_num, in_step hal.out HX.out HIN.out⟩
        case measure => simp [intOf]; omega
      · rw [decide_eq_false hin] at r0
        have HF : Hid ((zz.all fun x => decide (x ∈ S)) = false) := by
          show _ = _
          rw [List.all_eq_false]
          exact ⟨_, List.mem_of_getElem? HX.out, by simpa using hin⟩
        clear hin
        go_wp2_with fail
        go_ret
        exact ⟨by rw [HF.out]; rfl, rfl⟩
    · have HF : Hid ((zz.all fun x => decide (x ∈ S)) = true) := by
        show _ = _
        rw [List.all_eq_true]
        intro x hx
        rw [decide_eq_true_eq]
        exact hal.out x (by rw [List.take_of_length_le (by have := HZL.out; omega)]; exact hx)
      go_wp2_with fail
      go_ret
      exact ⟨by rw [HF.out]; rfl, rfl⟩
/-- Those of the first k lessons that can be taken. -/
def nxtN (N : Int → List Int) (S : List Int) : Nat → List Int
  | 0 => []
  | k + 1 => if canB N S (k : Int) = true then nxtN N S k ++ [(k : Int)] else nxtN N S k
theorem nxtN_yes {N : Int → List Int} {S : List Int} {k : Nat} (h : canB N S (k : Int) = true) : nxtN N S (k + 1) = nxtN N S k ++ [(k : Int)] := by simp [nxtN, h]
theorem nxtN_no {N : Int → List Int} {S : List Int} {k : Nat} (h : canB N S (k : Int) = false) : nxtN N S (k + 1) = nxtN N S k := by simp [nxtN, h]
theorem nxtN_len (N : Int → List Int) (S : List Int) (k : Nat) : (nxtN N S k).length ≤ k := by
  induction k with
  | zero => simp [nxtN]
  | succ k ih =>
    simp only [nxtN]
    split
    · simp; omega
    · omega
def nxtZ (l : List TLesson) (z : List Int) : List Int := if takB l z = 0 then nxtN (needsL l) z l.length else []
theorem nxtZ_len (l : List TLesson) (z : List Int) : (nxtZ l z).length ≤ 1048576 := by
  unfold nxtZ
  split
  · rename_i h
    have h1 := nxtN_len (needsL l) z l.length
    have h2 := les_len (takB_zero h).1
    omega
  · simp
theorem can_split (N : Int → List Int) (S : List Int) (k : Int) : canB N S k = (decide (k ∉ S) && (N k).all fun x => decide (x ∈ S)) := rfl
set_option maxRecDepth 20000 in
set_option maxHeartbeats 4000000 in
theorem c_sNextLessons (A B : Option Addr) (n c m d : Nat) (l : List TLesson) (z : List Int) (w : World) (ha : Ls w A n l) (hz : Zs w B m z) (hsz : LsB l) (hn : n ≤ 1048576) (hm : m ≤ 1048576) :
    Calls Try.prog 20 #[.slice A n c, .slice B m d] w (IntsPost (nxtZ l z) (takB l z) w) := by
  have hl := ha.len
  subst hl
  have HA := Lib.hid ha
  have HZ := Lib.hid hz
  have HSZ := Lib.hid hsz
  clear ha hz hsz
  by_cases h0 : takB l z = 0
  · have e1 : Hid (nxtZ l z = nxtN (needsL l) z l.length) := if_pos h0
    have H0 := Lib.hid h0
    have HNL : Hid (∀ k : Int, (needsL l k).length ≤ 1048576) := fun k => Nat.le_trans (needs_len (takB_zero h0).1 k) hn
    go_enter Try.func20, Try.ntmps20
    go_wp2_with (go_at_call 36; refine (c_l18Taken _ _ _ _ _ _ l z _ H0.out _ HA.out HZ.out HSZ.out hn hm).mono ?_; rintro r_ w1 ⟨rfl, hb1⟩)
    have hz1 := hb1.size
    clear h0
    go_loopw [7, 8] (fun v i wr => ∃ k : Nat, k ≤ l.length ∧ i = .int .i64 k ∧ Below w.heap.size w wr ∧ Hid (wr.ownsRow w.heap.size 2 1 v (nxtN (needsL l) z k).length ((nxtN (needsL l) z k).map (Value.int .i64)))) (fun _ i _ => l.length - (intOf i).toNat)
    case atStart => exact ⟨0, Nat.zero_le _, rfl, by (repeat' (first | (with_reducible exact Below.refl _ _) | (with_reducible assumption) | (with_reducible refine below_drewN ?_ _) | (with_reducible refine Below.drew ?_) | (with_reducible refine Below.alloc ?_ ?_ _) | (with_reducible refine Below.setCell ?_ ?_ _) | go_size)), own_base (World.ownsRow_made w1 #[] 0 (Nat.le_refl _) (by simp [maxLen]) rfl) hz1⟩
    case round =>
      obtain ⟨k, hk, rfl, hB, hown⟩ := hrel
      have hz := hB.size
      by_cases hlt : k < l.length
      · have hL := nxtN_len (needsL l) z k
        cases hc : canB (needsL l) z (k : Int)
        · have HC := Lib.hid hc
          have HE := Lib.hid (nxtN_no hc)
          clear hc
          go_wp2_with (go_at_call 46; refine (c_l18Can _ _ _ _ _ _ l z k _ HC.out _ (HA.out.later hB) (HZ.out.later hB) hlt (HNL.out _) hn hm).mono ?_; rintro e w' ⟨rfl, rfl⟩)
          go_roundw
          case rel => first | exact ⟨k + 1, by omega, by go_num, hB, by show World.ownsRow _ _ _ _ _ _ _; rw [HE.out]; exact hown.out⟩ | ((repeat apply Exists.intro); exact ⟨⟨k + 1, by omega, by go_num, hB, by show World.ownsRow _ _ _ _ _ _ _; rw [HE.out]; exact hown.out⟩, rfl⟩)
          case measure => simp [intOf]; omega
        · have HC := Lib.hid hc
          have HE := Lib.hid (nxtN_yes hc)
          clear hc
          go_wp2_with (first | (go_at_call 46; refine (c_l18Can _ _ _ _ _ _ l z k _ HC.out _ (HA.out.later hB) (HZ.out.later hB) hlt (HNL.out _) hn hm).mono ?_; rintro e w' ⟨rfl, rfl⟩) | (at_builtin; refine app1 rfl (.tmp 26) (.tmp 28) _ rfl w.heap.size 2 _ 8 Try.underlying30 info_int64 rfl _ _ rfl _ _ _ rfl hown.out rfl (by omega) (by omega) hz ?_; intro v3 w3 hown3 hb3 _; have O3 := Lib.hid hown3; have HB3 := Lib.hid (hB.trans hb3); clear hown3 hb3))
          go_roundw
          case rel => first | exact ⟨k + 1, by omega, by go_num, HB3.out, by show World.ownsRow _ _ _ _ _ _ _; rw [HE.out, List.map_append, List.length_append]; exact O3.out⟩ | ((repeat apply Exists.intro); exact ⟨⟨k + 1, by omega, by go_num, HB3.out, by show World.ownsRow _ _ _ _ _ _ _; rw [HE.out, List.map_append, List.length_append]; exact O3.out⟩, rfl⟩)
          case measure => simp [intOf]; omega
      · have hke : k = l.length := by omega
        subst hke
        go_wp2_with fail
        go_ret2
        rw [e1.out, H0.out]
        exact IntsPost.mk_ rfl hown.out hB
  · have e1 : Hid (nxtZ l z = []) := if_neg h0
    rcases takB_cases l z with ⟨_, e⟩ | ⟨_, _, e⟩ | ⟨_, _, e⟩
    rotate_right
    · exact absurd e h0
    all_goals
      have E := Lib.hid e
      clear e h0
      go_enter Try.func20, Try.ntmps20
      go_wp2_with (go_at_call 36; refine (c_l18Taken _ _ _ _ _ _ l z _ E.out _ HA.out HZ.out HSZ.out hn hm).mono ?_; rintro r_ w1 ⟨rfl, hb1⟩)
      go_ret2
      rw [e1.out, E.out]
      exact IntsPost.err hb1
set_option maxRecDepth 20000 in
set_option maxHeartbeats 4000000 in
theorem c_iNextLessons (A B : Option Addr) (n c m d : Nat) (l : List TLesson) (z : List Int) (w : World) (ha : Ls w A n l) (hz : Zs w B m z) (hsz : LsB l) (hn : n ≤ 1048576) (hm : m ≤ 1048576) :
    Calls Try.prog 21 #[.slice A n c, .slice B m d] w (IntsPost (nxtZ l z) (takB l z) w) := by
  have hl := ha.len
  subst hl
  have HA := Lib.hid ha
  have HZ := Lib.hid hz
  have HSZ := Lib.hid hsz
  clear ha hz hsz
  by_cases h0 : takB l z = 0
  · have e1 : Hid (nxtZ l z = nxtN (needsL l) z l.length) := if_pos h0
    have H0 := Lib.hid h0
    obtain ⟨hok, hri⟩ := takB_zero h0
    have HBD : Hid (∀ x ∈ z, (0 : Int) ≤ x ∧ x < l.length) := fun x hx => by have := rises_bd hri hx; omega
    have HNB := Lib.hid (needs_bd hok)
    have HNL := Lib.hid (needs_len hok)
    clear h0 hok hri
    go_enter Try.func21, Try.ntmps21
    go_wp2_with (first | (go_at_call 40; refine (c_takenCode _ _ _ _ _ _ l z _ H0.out _ HA.out HZ.out HSZ.out hn hm).mono ?_; rintro r_ w1 ⟨rfl, hb1⟩) | (go_at_call 47; refine (c_marks _ _ _ _ z _ (HZ.out.later hb1) HBD.out hn hm).mono ?_; rintro r_ w2 ⟨rfl, hR2, hb2⟩; have HR2 := Lib.hid hR2; have hB2 := hb1.trans (hb2.mono hb1.size)))
    have hz2 := hB2.size
    have hg2 := HR2.out.lt
    go_loopw [8, 24] (fun v i wr => ∃ k : Nat, k ≤ l.length ∧ i = .int .i64 k ∧ Below w2.heap.size w2 wr ∧ Hid (wr.ownsRow w2.heap.size 2 1 v (nxtN (needsL l) z k).length ((nxtN (needsL l) z k).map (Value.int .i64)))) (fun _ i _ => l.length - (intOf i).toNat)
    case atStart => exact ⟨0, Nat.zero_le _, rfl, by (repeat' (first | (with_reducible exact Below.refl _ _) | (with_reducible assumption) | (with_reducible refine below_drewN ?_ _) | (with_reducible refine Below.drew ?_) | (with_reducible refine Below.alloc ?_ ?_ _) | (with_reducible refine Below.setCell ?_ ?_ _) | go_size)), World.ownsRow_made w2 #[] 0 (Nat.le_refl _) (by simp [maxLen]) rfl⟩
    case round =>
      obtain ⟨k, hk, rfl, hBr, hown⟩ := hrel
      rename World => wo
      have hz := hBr.size
      by_cases hlt : k < l.length
      · have hL := nxtN_len (needsL l) z k
        have HBW := Lib.hid (hB2.trans (hBr.mono hz2))
        obtain ⟨b, o, nm, lt, S, cc, zz, hr, rfl, hb2', hx, hK⟩ := les_all HA.out hlt
        obtain ⟨hb1', c0, c1, c2, c3, _⟩ := hK _ HBW.out
        have K := Lib.hid hK
        have hN := needsL_at hx
        simp only at hN
        have HZB : Hid (∀ x ∈ zz, (0 : Int) ≤ x ∧ x < l.length) := fun x hx' => HNB.out (k : Int) x (by rw [hN]; exact hx')
        have hzl : zz.length ≤ 1048576 := by have := HNL.out (k : Int); rw [hN] at this; omega
        have HR := Lib.hid (HR2.out.below hBr hg2)
        have r0 := HR.out.cell hlt
        rw [mkB_get z hlt] at r0
        have hg3 := HR.out.lt
        have hkI : (k : Int) < l.length := by omega
        have hcs := can_split (needsL l) z (k : Int)
        rw [hN] at hcs
        have HBA := Lib.hid (fun o => HBW.out.alloc (Nat.le_trans hz2 hz) o)
        clear hx hK hN
        by_cases hin : (k : Int) ∈ z
        · rw [decide_eq_true hin] at r0
          have HE := Lib.hid (nxtN_no (can_has (N := needsL l) hin))
          clear hin hcs
          go_wp2_with fail
          go_roundw
          case rel => first | exact ⟨k + 1, by omega, by go_num, by (repeat' (first | (with_reducible exact Below.refl _ _) | (with_reducible assumption) | (with_reducible refine below_drewN ?_ _) | (with_reducible refine Below.drew ?_) | (with_reducible refine Below.alloc ?_ ?_ _) | (with_reducible refine Below.setCell ?_ ?_ _) | go_size)), by show World.ownsRow _ _ _ _ _ _ _; rw [HE.out]; exact hown.out.alloc _⟩ | ((repeat apply Exists.intro); exact ⟨⟨k + 1, by omega, by go_num, by (repeat' (first | (with_reducible exact Below.refl _ _) | (with_reducible assumption) | (with_reducible refine below_drewN ?_ _) | (with_reducible refine Below.drew ?_) | (with_reducible refine Below.alloc ?_ ?_ _) | (with_reducible refine Below.setCell ?_ ?_ _) | go_size)), by show World.ownsRow _ _ _ _ _ _ _; rw [HE.out]; exact hown.out.alloc _⟩, rfl⟩)
          case measure => simp [intOf]; omega
        · rw [decide_eq_false hin] at r0
          cases hal : zz.all fun x => decide (x ∈ z)
          · have HAL := Lib.hid hal
            have HE : Hid (nxtN (needsL l) z (k + 1) = nxtN (needsL l) z k) := nxtN_no (by rw [hcs, hal, Bool.and_false])
            clear hin hcs hal
            go_wp2_with (go_at_call 48; refine (c_allIn _ _ _ _ _ zz z _ HAL.out _ ((K.out _ (HBA.out _)).2.2.2.2.2) (HR.out.alloc _) HZB.out hn hzl).mono ?_; rintro e w' ⟨rfl, rfl⟩)
            go_roundw
            case rel => first | exact ⟨k + 1, by omega, by go_num, by (repeat' (first | (with_reducible exact Below.refl _ _) | (with_reducible assumption) | (with_reducible refine below_drewN ?_ _) | (with_reducible refine Below.drew ?_) | (with_reducible refine Below.alloc ?_ ?_ _) | (with_reducible refine Below.setCell ?_ ?_ _) | go_size)), by show World.ownsRow _ _ _ _ _ _ _; rw [HE.out]; exact hown.out.alloc _⟩ | ((repeat apply Exists.intro); exact ⟨⟨k + 1, by omega, by go_num, by (repeat' (first | (with_reducible exact Below.refl _ _) | (with_reducible assumption) | (with_reducible refine below_drewN ?_ _) | (with_reducible refine Below.drew ?_) | (with_reducible refine Below.alloc ?_ ?_ _) | (with_reducible refine Below.setCell ?_ ?_ _) | go_size)), by show World.ownsRow _ _ _ _ _ _ _; rw [HE.out]; exact hown.out.alloc _⟩, rfl⟩)
            case measure => simp [intOf]; omega
          · have HAL := Lib.hid hal
            have HE : Hid (nxtN (needsL l) z (k + 1) = nxtN (needsL l) z k ++ [(k : Int)]) := nxtN_yes (by rw [hcs, hal]; simpa using hin)
            clear hin hcs hal
            go_wp2_with (first | (go_at_call 48; refine (c_allIn _ _ _ _ _ zz z _ HAL.out _ ((K.out _ (HBA.out _)).2.2.2.2.2) (HR.out.alloc _) HZB.out hn hzl).mono ?_; rintro e w' ⟨rfl, rfl⟩) | (at_builtin; refine app1 rfl (.tmp 40) (.tmp 42) _ rfl w2.heap.size 2 _ 8 Try.underlying30 info_int64 rfl _ _ rfl _ _ _ rfl (hown.out.alloc _) (by rw [World.size_alloc]; rfl) (by omega) (by omega) (by simp; omega) ?_; intro v3 w3 hown3 hb3 _; have O3 := Lib.hid hown3; have HB3 := Lib.hid ((hBr.alloc hz _).trans hb3); clear hown3 hb3))
            go_roundw
            case rel => first | exact ⟨k + 1, by omega, by go_num, HB3.out, by show World.ownsRow _ _ _ _ _ _ _; rw [HE.out, List.map_append, List.length_append]; exact O3.out⟩ | ((repeat apply Exists.intro); exact ⟨⟨k + 1, by omega, by go_num, HB3.out, by show World.ownsRow _ _ _ _ _ _ _; rw [HE.out, List.map_append, List.length_append]; exact O3.out⟩, rfl⟩)
            case measure => simp [intOf]; omega
      · have hke : k = l.length := by omega
        subst hke
        have HBW := Lib.hid (hB2.trans (hBr.mono hz2))
        go_wp2_with fail
        go_ret2
        rw [e1.out, H0.out]
        exact IntsPost.mk_ rfl (own_base hown.out hz2) HBW.out
  · have e1 : Hid (nxtZ l z = []) := if_neg h0
    rcases takB_cases l z with ⟨_, e⟩ | ⟨_, _, e⟩ | ⟨_, _, e⟩
    rotate_right
    · exact absurd e h0
    all_goals
      have E := Lib.hid e
      clear e h0
      go_enter Try.func21, Try.ntmps21
      go_wp2_with (go_at_call 40; refine (c_takenCode _ _ _ _ _ _ l z _ E.out _ HA.out HZ.out HSZ.out hn hm).mono ?_; rintro r_ w1 ⟨rfl, hb1⟩)
      go_ret2
      rw [e1.out, E.out]
      exact IntsPost.err hb1
end Go.Proofs.Ytajcdaclbammaaa
