/- Contracts: hours of lessons; lists compared; lessons for a text: plain. -/
import Derived.Test.YtajcdaclbammaaaOr
namespace Go.Proofs.Ytajcdaclbammaaa
open Go.RowKit Go.BigFrame
attribute [local go_sem] sub_cell sub_frozen drewN_setCell

/-- The hours of some lessons. -/
def hrS (l : List TLesson) : List Int → Int
  | [] => 0
  | k :: z => hrL l k + hrS l z
theorem hrS_snoc (l : List TLesson) (z : List Int) (k : Int) : hrS l (z ++ [k]) = hrS l z + hrL l k := by
  induction z with
  | nil => simp [hrS]
  | cons a z ih => simp only [List.cons_append, hrS, ih]; omega
theorem hrL_bd {l : List TLesson} (h : lesB l = true) (k : Int) : 0 ≤ hrL l k ∧ hrL l k ≤ 100 := by
  unfold hrL
  rw [List.getD_eq_getElem?_getD]
  cases hx : l[k.toNat]? with
  | none => simp [ledef]
  | some x =>
    have := les_item h hx
    simp only [okLe, Bool.and_eq_true] at this
    exact betw_true this.2.2.2.2.1
theorem hrS_bd {l : List TLesson} (h : lesB l = true) (z : List Int) : 0 ≤ hrS l z ∧ hrS l z ≤ 100 * z.length := by
  induction z with
  | nil => simp [hrS]
  | cons a z ih => have := hrL_bd h a; simp only [hrS, List.length_cons]; omega
theorem hrS_take {l : List TLesson} {z : List Int} {i : Nat} {k : Int} (h : z[i]? = some k) : hrS l (z.take (i + 1)) = hrS l (z.take i) + hrL l k := by
  rw [List.take_add_one, h]; exact hrS_snoc _ _ _
set_option maxHeartbeats 2000000 in
theorem c_l18Hours (A B : Option Addr) (n c m d : Nat) (l : List TLesson) (z : List Int) (w : World) (ha : Ls w A n l) (hz : Zs w B m z) (hok : lesB l = true) (hbd : ∀ x ∈ z, (0 : Int) ≤ x ∧ x < n) (hm : m ≤ 1048576) :
    Calls Try.prog 50 #[.slice A n c, .slice B m d] w fun e w' => e = .returned (.int .i64 (hrS l z)) ∧ w = w' := by
  have HA := Lib.hid ha
  have HZ := Lib.hid hz
  have HZL := Lib.hid hz.1
  have HOK := Lib.hid hok
  have HBD := Lib.hid hbd
  clear ha hz hok hbd
  go_enter Try.func50, Try.ntmps50
  go_wp2_with fail
  go_loop [5, 6] (fun s i => ∃ k : Nat, k ≤ m ∧ i = .int .i64 k ∧ s = .int .i64 (hrS l (z.take k))) (fun _ i => m - (intOf i).toNat)
  case atStart => exact ⟨0, Nat.zero_le _, rfl, rfl⟩
  case round =>
    obtain ⟨k, hk, rfl, rfl⟩ := hrel
    by_cases hlt : k < m
    · obtain ⟨bz, oz, x, rfl, hbz1, hbz2, hx, cz⟩ := z_at HZ.out (Below.refl _ _) hlt
      obtain ⟨hx0, hx1⟩ := HBD.out x (List.mem_of_getElem? hx)
      obtain ⟨p, rfl⟩ : ∃ p : Nat, x = p := ⟨x.toNat, by omega⟩
      have hpn : p < n := by omega
      obtain ⟨b, o, nm, lt, S, cc, zz, hh, rfl, hb2, hx2, hK⟩ := les_all HA.out hpn
      obtain ⟨hb1, _, _, _, c3, _⟩ := hK _ (Below.refl _ _)
      have hE := hrS_take (l := l) hx
      rw [hrL_at hx2] at hE
      simp only at hE
      have b1 := hrS_bd HOK.out (z.take k)
      have b2 := hrS_bd HOK.out (z.take (k + 1))
      rw [hE] at b2
      have hln1 : (z.take k).length ≤ 1048576 := by rw [List.length_take]; omega
      have hln2 : (z.take (k + 1)).length ≤ 1048576 := by rw [List.length_take]; omega
      obtain ⟨b21, b22⟩ := b2
      obtain ⟨b11, b12⟩ := b1
      generalize hrS l (z.take k) = q at *
      have HE := Lib.hid hE
      have hpI : (p : Int) < n := by omega
      have hwr : IntKind.i64.wrap (q + hh) = q + hh := IntWalk.i64_in _ (by omega)
      clear hx hx2 hK hE
      go_wp2_with fail
      go_round
      case rel => exact ⟨k + 1, by omega, by go_num, by rw [HE.out]⟩
      case measure => simp [intOf]; omega
    · have hE : Hid (z.take k = z) := by show _ = _; rw [List.take_of_length_le]; have := HZL.out; omega
      go_wp2_with fail
      go_ret
      exact ⟨by rw [hE.out]; rfl, rfl⟩
set_option maxHeartbeats 2000000 in
theorem c_hours (A B : Option Addr) (n c m d : Nat) (l : List TLesson) (z : List Int) (w : World) (ha : Ls w A n l) (hz : Zs w B m z) (hok : lesB l = true) (hbd : ∀ x ∈ z, (0 : Int) ≤ x ∧ x < n) (hm : m ≤ 1048576) :
    Calls Try.prog 53 #[.slice A n c, .slice B m d] w fun e w' => e = .returned (.int .i64 (hrS l z)) ∧ w = w' := by
  have HA := Lib.hid ha
  have HZ := Lib.hid hz
  have HZL := Lib.hid hz.1
  have HOK := Lib.hid hok
  have HBD := Lib.hid hbd
  clear ha hz hok hbd
  go_enter Try.func53, Try.ntmps53
  go_wp2_with fail
  go_loop [5, 10] (fun s i => ∃ k : Nat, k ≤ m ∧ i = .int .i64 k ∧ s = .int .i64 (hrS l (z.take k))) (fun _ i => m - (intOf i).toNat)
  case atStart => exact ⟨0, Nat.zero_le _, rfl, rfl⟩
  case round =>
    obtain ⟨k, hk, rfl, rfl⟩ := hrel
    by_cases hlt : k < m
    · obtain ⟨bz, oz, x, rfl, hbz1, hbz2, hx, cz⟩ := z_at HZ.out (Below.refl _ _) hlt
      obtain ⟨hx0, hx1⟩ := HBD.out x (List.mem_of_getElem? hx)
      obtain ⟨p, rfl⟩ : ∃ p : Nat, x = p := ⟨x.toNat, by omega⟩
      have hpn : p < n := by omega
      obtain ⟨b, o, nm, lt, S, cc, zz, hh, rfl, hb2, hx2, hK⟩ := les_all HA.out hpn
      obtain ⟨hb1, _, _, _, c3, _⟩ := hK _ (Below.refl _ _)
      have hE := hrS_take (l := l) hx
      rw [hrL_at hx2] at hE
      simp only at hE
      have b1 := hrS_bd HOK.out (z.take k)
      have b2 := hrS_bd HOK.out (z.take (k + 1))
      rw [hE] at b2
      have hln1 : (z.take k).length ≤ 1048576 := by rw [List.length_take]; omega
      have hln2 : (z.take (k + 1)).length ≤ 1048576 := by rw [List.length_take]; omega
      obtain ⟨b21, b22⟩ := b2
      obtain ⟨b11, b12⟩ := b1
      generalize hrS l (z.take k) = q at *
      have HE := Lib.hid hE
      have hpI : (p : Int) < n := by omega
      have hwr : IntKind.i64.wrap (q + hh) = q + hh := IntWalk.i64_in _ (by omega)
      clear hx hx2 hK hE
      go_wp2_with fail
      go_round
      case rel => exact ⟨k + 1, by omega, by go_num, by rw [HE.out]⟩
      case measure => simp [intOf]; omega
    · have hE : Hid (z.take k = z) := by show _ = _; rw [List.take_of_length_le]; have := HZL.out; omega
      go_wp2_with fail
      go_ret
      exact ⟨by rw [hE.out]; rfl, rfl⟩
theorem less_len {a b : List Int} (h : a.length ≠ b.length) : lessLn a b = decide (a.length < b.length) := by simp [lessLn, h]
theorem less_same {a b : List Int} (h : a.length = b.length) : lessLn a b = decide (cmpZ a b < 0) := by simp [lessLn, h]
set_option maxHeartbeats 4000000 in
theorem c_l18Less (A B : Option Addr) (n m c d : Nat) (a b : List Int) (w : World) (ha : Zs w A n a) (hb : Zs w B m b) (hn : n ≤ 1048576) (hm : m ≤ 1048576) :
    Calls Try.prog 52 #[.slice A n c, .slice B m d] w fun r w' => r = .returned (.bool (lessLn a b)) ∧ Draws w w' := by
  have HA := Lib.hid ha
  have HB := Lib.hid hb
  have HLA := Lib.hid ha.1
  have HLB := Lib.hid hb.1
  clear ha hb
  by_cases he : n = m
  · subst he
    have HS : Hid (lessLn a b = decide (cmpZ a b < 0)) := less_same (by rw [HLA.out, HLB.out])
    go_enter Try.func52, Try.ntmps52
    go_wp2_with fail
    go_loopw [5] (fun i wr => ∃ k nd : Nat, k ≤ n ∧ i = .int .i64 k ∧ wr = w.drewN nd ∧ Hid (cmpZ (a.drop k) (b.drop k) = cmpZ a b)) (fun i _ => n - (intOf i).toNat)
    case atStart => exact ⟨0, 0, Nat.zero_le _, rfl, rfl, rfl⟩
    case round =>
      obtain ⟨k, nd, hk, rfl, rfl, hc⟩ := hrel
      by_cases hlt : k < n
      · obtain ⟨p, o, x, rfl, hp1, hp2, hx, c0⟩ := z_at HA.out (Below.refl _ _) hlt
        obtain ⟨p', o', y, rfl, hp1', hp2', hy, c1⟩ := z_at HB.out (Below.refl _ _) hlt
        have hI : (k : Int) < n := by omega
        have hI0 : (0 : Int) ≤ (k : Int) := by omega
        have hc' := hc.out
        rw [drop_at hx, drop_at hy] at hc'
        by_cases hxy : x = y
        · have HC : Hid (cmpZ (a.drop (k + 1)) (b.drop (k + 1)) = cmpZ a b) := by show _ = _; rw [← hc', cmpZ_same _ _ hxy]
          have e1 : (x != y) = false := by simp [hxy]
          clear hx hy hc hc'
          subst hxy
          go_wp2_with fail
          go_quiet (fail)
          go_wp2_with fail
          go_roundw
          case rel => exact ⟨k + 1, _, by omega, by go_num, rfl, HC⟩
          case measure => simp [intOf]; omega
        · have e1 : (x != y) = true := by simp [hxy]
          obtain ⟨r, hr⟩ : ∃ r, lessLn a b = r := ⟨_, rfl⟩
          have hd : decide (x < y) = r := by
            rw [← hr, HS.out, ← hc']
            by_cases h1 : x < y
            · rw [cmpZ_lt _ _ h1]; simp [h1]
            · rw [cmpZ_gt _ _ (by omega)]; simp [h1]
          have HRR := Lib.hid hr
          clear hx hy hc hc' hr
          go_wp2_with fail
          go_quiet (fail)
          go_wp2_with fail
          go_quiet (fail)
          go_wp2_with fail
          go_ret
          exact ⟨by rw [HRR.out]; first | rfl | (rw [hd]; rfl), ⟨_, by simp only [World.drewN_drewN]; rfl⟩⟩
      · have hke : k = n := by omega
        subst hke
        have HC : Hid (lessLn a b = false) := by
          show _ = _
          have h1 := hc.out
          rw [drop_all (l := a) (by rw [HLA.out]; exact Nat.le_refl _), drop_all (l := b) (by rw [HLB.out]; exact Nat.le_refl _)] at h1
          rw [HS.out, ← h1]; rfl
        go_wp2_with fail
        go_ret
        exact ⟨by rw [HC.out]; rfl, ⟨_, rfl⟩⟩
  · have e1 : ((n : Int) != (m : Int)) = true := by simp; omega
    have HS : Hid (lessLn a b = decide (n < m)) := by show _ = _; rw [less_len (by rw [HLA.out, HLB.out]; exact he), HLA.out, HLB.out]
    by_cases hlt : n < m
    · have hI : (n : Int) < (m : Int) := by omega
      clear he
      go_enter Try.func52, Try.ntmps52
      go_wp2_with fail
      go_ret
      exact ⟨by rw [HS.out]; simp [hlt], draws_refl _⟩
    · have hI : ¬ (n : Int) < (m : Int) := by omega
      clear he
      go_enter Try.func52, Try.ntmps52
      go_wp2_with fail
      go_ret
      exact ⟨by rw [HS.out]; simp [hlt], draws_refl _⟩
theorem rsg_idx {n : Int} : ∀ {lo : Int} {z : List Int}, Rsg n lo z → ∀ (i : Nat) (x y : Int), z[i]? = some x → z[i + 1]? = some y → x < y
  | _, [], _, i, x, y, hx, _ => by simp at hx
  | lo, a :: z, h, 0, x, y, hx, hy => by
    simp at hx hy
    subst hx
    cases z with
    | nil => simp at hy
    | cons b t => simp at hy; subst hy; have := h.2.2.1; omega
  | lo, a :: z, h, i + 1, x, y, hx, hy => rsg_idx h.2.2 i x y (by simpa using hx) (by simpa using hy)
theorem rsg_rises {n : Int} {z : List Int} (h : Rsg n 0 z) : risesZ 0 (n - 1) z = true := by
  refine risesZ_end rfl ?_
  rw [allN, List.all_eq_true]
  intro i hi
  have hin : i < z.length := by simpa using hi
  have hx : z[i]? = some z[i] := List.getElem?_eq_getElem hin
  have hb : betw z[i] 0 (n - 1) = true := by
    have := Rsg_mem h _ (List.mem_of_getElem? hx)
    simp [betw]; omega
  cases i with
  | zero => exact riseZ_zero hx hb
  | succ i =>
    have hy : z[i]? = some z[i] := List.getElem?_eq_getElem (by omega)
    rw [riseZ_succ hy hx hb]
    simpa using rsg_idx h i _ _ hy hx
theorem chs_rises (set n : Nat) : risesZ 0 ((n : Int) - 1) (chsN set n) = true := rsg_rises (chsN_rsg set n)
/-- All that some lessons need is among them. -/
def cloB (N : Int → List Int) (z : List Int) : Bool := z.all fun y => (N y).all fun x => decide (x ∈ z)
theorem cloB_iff {N : Int → List Int} {z : List Int} : cloB N z = true ↔ ∀ y ∈ z, ∀ x ∈ N y, x ∈ z := by simp [cloB]
/-- Lessons that will do for a text. -/
def okT (l : List TLesson) (t : ByteArray) (z : List Int) : Bool := typB (knL l z) (bl t) && cloB (needsL l) z
def updT (l : List TLesson) (t : ByteArray) (b : Option (List Int)) (s : List Int) : Option (List Int) :=
  if okT l t s = true then (match b with | none => some s | some b => if hrS l s < hrS l b ∨ (hrS l s = hrS l b ∧ lessLn s b = true) then some s else some b) else b
def bestT (l : List TLesson) (t : ByteArray) (n : Nat) : Nat → Option (List Int)
  | 0 => none
  | k + 1 => updT l t (bestT l t n k) (chsN k n)
theorem bestT_shape (l : List TLesson) (t : ByteArray) (n k : Nat) : ∀ b, bestT l t n k = some b → ∃ j, b = chsN j n := by
  induction k with
  | zero => intro b h; simp [bestT] at h
  | succ k ih =>
    intro b h
    simp only [bestT, updT] at h
    split at h
    · cases hb : bestT l t n k with
      | none => rw [hb] at h; simp at h; exact ⟨k, h.symm⟩
      | some b0 =>
        rw [hb] at h
        simp only at h
        split at h
        · simp at h; exact ⟨k, h.symm⟩
        · simp at h; rw [← h]; exact ih b0 hb
    · exact ih b h
noncomputable def ftC (l : List TLesson) (t : ByteArray) : Int := if lesB l = true then (if textB 32 100 (bl t) = true then (if 0 ≤ cirN l then 9 else (match bestT l t l.length (2 ^ l.length) with | none => 3 | some _ => 0)) else 2) else 1
noncomputable def ftZ (l : List TLesson) (t : ByteArray) : List Int := if ftC l t = 0 then (bestT l t l.length (2 ^ l.length)).getD [] else []
theorem ft_cases (l : List TLesson) (t : ByteArray) : (lesB l = false ∧ ftC l t = 1 ∧ ftZ l t = []) ∨ (lesB l = true ∧ textB 32 100 (bl t) = false ∧ ftC l t = 2 ∧ ftZ l t = []) ∨ (lesB l = true ∧ textB 32 100 (bl t) = true ∧ 0 ≤ cirN l ∧ ftC l t = 9 ∧ ftZ l t = []) ∨
    (lesB l = true ∧ textB 32 100 (bl t) = true ∧ cirN l < 0 ∧ ((bestT l t l.length (2 ^ l.length) = none ∧ ftC l t = 3 ∧ ftZ l t = []) ∨ ∃ b, bestT l t l.length (2 ^ l.length) = some b ∧ ftC l t = 0 ∧ ftZ l t = b)) := by
  cases g : lesB l
  · left; simp [ftC, ftZ, g]
  · cases g2 : textB 32 100 (bl t)
    · right; left; simp [ftC, ftZ, g, g2]
    · by_cases h : 0 ≤ cirN l
      · right; right; left; simp [ftC, ftZ, g, g2, h]
      · right; right; right
        refine ⟨rfl, rfl, by omega, ?_⟩
        cases hb : bestT l t l.length (2 ^ l.length) with
        | none => left; simp [ftC, ftZ, g, g2, h, hb]
        | some b => right; exact ⟨b, rfl, by simp [ftC, g, g2, h, hb], by simp [ftZ, ftC, g, g2, h, hb]⟩
theorem ftZ_len (l : List TLesson) (t : ByteArray) : (ftZ l t).length ≤ 1048576 := by
  rcases ft_cases l t with ⟨_, _, e⟩ | ⟨_, _, _, e⟩ | ⟨_, _, _, _, e⟩ | ⟨g, _, _, ⟨_, _, e⟩ | ⟨b, hb, _, e⟩⟩ <;> rw [e]
  · simp
  · simp
  · simp
  · simp
  · obtain ⟨j, rfl⟩ := bestT_shape l t l.length _ b hb
    have := chsN_len j l.length
    have := les_len g
    omega
end Go.Proofs.Ytajcdaclbammaaa
