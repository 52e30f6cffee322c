/- Contracts: the text of a lesson: the reference. -/
import Derived.Test.YtajcdaclbammaaaDoorLt0
namespace Go.Proofs.YtajcdaclbammaaaDoor
open Go.RowKit Go.BigFrame
attribute [local go_sem] sub_cell sub_frozen drewN_setCell
theorem lt_cases (l : List TLesson) (k : Int) : (lesB l = false ∧ ltV l k = ⟨#[]⟩) ∨ (lesB l = true ∧ betw k 0 ((l.length : Int) - 1) = false ∧ ltV l k = ⟨#[]⟩) ∨ (lesB l = true ∧ betw k 0 ((l.length : Int) - 1) = true ∧ ∃ (p : Nat) (nm lt : ByteArray) (z : List Int) (hr : Int), k = p ∧ p < l.length ∧ l[p]? = some (nm, lt, z, hr) ∧ ltV l k = sb (headL nm lt hr ++ aftL (nmL l z))) := by
  cases g : lesB l
  · left; simp [ltV, g]
  · cases g2 : betw k 0 ((l.length : Int) - 1)
    · right; left; simp [ltV, g, g2]
    · right; right
      obtain ⟨h0, h1⟩ := betw_true g2
      obtain ⟨p, rfl⟩ : ∃ p : Nat, k = p := ⟨k.toNat, by omega⟩
      have hp : p < l.length := by omega
      have hx : l[p]? = some l[p] := List.getElem?_eq_getElem hp
      refine ⟨rfl, rfl, p, _, _, _, _, rfl, hp, hx, ?_⟩
      rw [ltV, if_pos g, if_pos g2, Int.toNat_natCast, List.getD_eq_getElem?_getD, hx]
      rfl
set_option maxRecDepth 20000 in
set_option maxHeartbeats 8000000 in
theorem c_sLessonText (A : Option Addr) (n c : Nat) (l : List TLesson) (k : Int) (w : World) (ha : Ls w A n l) (hsz : LsB l) (hn : n ≤ 1048576) :
    Calls Tryd.prog 5 #[.slice A n c, .int .i64 k] w fun e w' => e = .returned (.string (ltV l k)) ∧ Below w.heap.size w w' := by
  have hl := ha.len
  subst hl
  have HA := Lib.hid ha
  have HSZ := Lib.hid hsz
  clear ha hsz
  rcases lt_cases l k with ⟨g, e⟩ | ⟨g, g2, e⟩ | ⟨g, g2, p, nm, lt, z, hr, rfl, hp, hx, e⟩ <;> rw [e] <;> clear e <;> have G := Lib.hid g
  · clear g
    go_enter Tryd.func5, Tryd.ntmps5
    go_wp2_with (go_at_call 10; refine (c_l18Ok _ _ _ l _ G.out _ HA.out HSZ.out hn).mono ?_; rintro r_ w1 ⟨rfl, hb1⟩)
    go_ret
    exact ⟨rfl, hb1⟩
  · have G2 := Lib.hid g2
    clear g g2
    go_enter Tryd.func5, Tryd.ntmps5
    go_wp2_with (first | (go_at_call 10; refine (c_l18Ok _ _ _ l _ G.out _ HA.out HSZ.out hn).mono ?_; rintro r_ w1 ⟨rfl, hb1⟩) | (go_at_call 11; refine (c_l00In _ _ _ _ G2.out _).mono ?_; rintro e w' ⟨rfl, rfl⟩))
    go_ret
    exact ⟨rfl, hb1⟩
  · have G2 := Lib.hid g2
    have h12 := les_len g
    obtain ⟨hs1, hs2, ⟨hr0, hr1⟩, hri⟩ := les_bounds g hx
    simp only at hs1 hs2 hr0 hr1 hri
    have hzl := rises_lenZ hri h12
    have HRI := Lib.hid hri
    obtain ⟨b, o, nm', lt', S, cc, z', hr', rfl, hb2, hx', hK⟩ := les_all HA.out hp
    rw [hx] at hx'
    simp only [Option.some.injEq, Prod.mk.injEq] at hx'
    obtain ⟨rfl, rfl, rfl, rfl⟩ := hx'
    have K := Lib.hid hK
    have hpI : (p : Int) < (l.length : Int) := by omega
    have hp0 : (0 : Int) ≤ (p : Int) := by omega
    have hit : (sb (Lib.itoa hr)).size ≤ 21 := by rw [sb_size]; exact Lib.itoa_length_le hr (by omega) (by omega)
    have HH := Lib.hid (head_sb nm lt hr)
    have HHS := Lib.hid (head_size hs1 hs2 ⟨hr0, hr1⟩)
    have HAS := Lib.hid (aft_size (nmL_bd g z))
    clear g g2 hx hri hK
    go_enter Tryd.func5, Tryd.ntmps5
    go_wp2_with (first | (go_at_call 10; refine (c_l18Ok _ _ _ l _ G.out _ HA.out HSZ.out hn).mono ?_; rintro r_ w1 ⟨rfl, hb1⟩; obtain ⟨hb1', c0, c1, c2, c3, _⟩ := K.out _ hb1) | (go_at_call 11; refine (c_l00In _ _ _ _ G2.out _).mono ?_; rintro e w' ⟨rfl, rfl⟩))
    refine wp_region_below (by kernel_rfl) (by kernel_rfl) ?_
    repeat (go_big_quiet_step ((go_at_call 12; refine qBg (c_l01Dec _ (by omega) (by omega) _) (by simp) ?_; intro w_ h_; first | exact h_ | exact h_.below | (subst h_; exact Below.refl _ _) | (subst h_; (repeat' (first | (with_reducible exact Below.refl _ _) | (with_reducible assumption) | (with_reducible refine below_drewN ?_ _) | (with_reducible refine Below.drew ?_) | (with_reducible refine Below.alloc ?_ ?_ _) | (with_reducible refine Below.setCell ?_ ?_ _) | go_size))) | (obtain ⟨n_, rfl⟩ := h_; (repeat' (first | (with_reducible exact Below.refl _ _) | (with_reducible assumption) | (with_reducible refine below_drewN ?_ _) | (with_reducible refine Below.drew ?_) | (with_reducible refine Below.alloc ?_ ?_ _) | (with_reducible refine Below.setCell ?_ ?_ _) | go_size))))))
    refine wpQuiet_nil ?_
    intro _ hw'
    obtain ⟨⟨w9, hb9⟩, hw''⟩ := hw'
    subst hw''
    have hB9 := hb1.trans (hb9.mono hb1.size)
    go_wp2_with fail
    clear c0 c1 c2 c3 hb1'
    go_loopw [6, 7] (fun v i wr => ∃ j : Nat, j ≤ z.length ∧ i = .int .i64 j ∧ v = .string (sb (headL nm lt hr ++ aftL ((nmL l z).take j))) ∧ Below w.heap.size w wr) (fun _ i _ => z.length - (intOf i).toNat)
    case atStart => exact ⟨0, Nat.zero_le _, rfl, by rw [List.take_zero, aft_nil, List.append_nil, ← HH.out], hB9⟩
    case round =>
      clear hB9
      obtain ⟨j, hj, rfl, rfl, hB⟩ := hrel
      obtain ⟨hb1', c0, c1, c2, c3, hzz⟩ := K.out _ hB
      by_cases hlt : j < z.length
      · obtain ⟨bz, oz, x, hAz, hbz1, hbz2, hy, cz⟩ := z_at hzz (Below.refl _ _) hlt
        subst hAz
        obtain ⟨hx0, hx1⟩ := risesZ_bd HRI.out hy
        obtain ⟨q, rfl⟩ : ∃ q : Nat, x = q := ⟨x.toNat, by omega⟩
        have hqn : q < l.length := by omega
        obtain ⟨nm2, lt2, S2, cc2, z2, hr2, _, hx2, hK2⟩ := les_allB HA.out hqn
        obtain ⟨_, d0, _, _, _, _⟩ := hK2 _ hB
        have h12' := (les_bounds G.out hx2).1
        simp only at h12'
        have HST := Lib.hid (aft_step (nmL_at hy hx2))
        simp only at HST
        have hqI : (q : Int) < (l.length : Int) := by omega
        have hjI : (j : Int) < (z.length : Int) := by omega
        have hss : (sb (headL nm lt hr ++ aftL ((nmL l z).take j))).size ≤ 400 := by
          rw [sb_size, List.length_append]
          have h1 := HHS.out
          have h2 := HAS.out j
          omega
        obtain ⟨s, hs⟩ : ∃ s, sb (headL nm lt hr ++ aftL ((nmL l z).take j)) = s := ⟨_, rfl⟩
        rw [hs] at hss ⊢
        have HSS := Lib.hid hs
        clear hzz hy hx2 hK2 hs c0 c1 c3
        by_cases hj0 : j = 0
        · have HE : Hid (sb (headL nm lt hr ++ aftL ((nmL l z).take (j + 1))) = s ++ ⟨#[32, 97, 102, 116, 101, 114, 32]⟩ ++ nm2) := by
            show _ = _
            rw [HST.out, if_pos hj0, ← HSS.out, hj0, List.take_zero, aft_nil, List.append_nil]
            conv => rhs; rw [← sb_bl nm2]
            rw [show (⟨#[32, 97, 102, 116, 101, 114, 32]⟩ : ByteArray) = sb [32, 97, 102, 116, 101, 114, 32] from rfl, sb_apd, sb_apd, List.append_assoc]
          have hq0 : ((j : Int) == 0) = true := by simp [hj0]
          clear hj0
          go_wp2_with fail
          go_roundw
          case rel => first | exact ⟨j + 1, by omega, by go_num, by rw [HE.out], hB⟩ | ((repeat apply Exists.intro); exact ⟨⟨j + 1, by omega, by go_num, by rw [HE.out], hB⟩, rfl⟩)
          case measure => simp [intOf]; omega
        · have HE : Hid (sb (headL nm lt hr ++ aftL ((nmL l z).take (j + 1))) = s ++ ⟨#[44]⟩ ++ nm2) := by
            show _ = _
            rw [HST.out, if_neg hj0, ← HSS.out]
            conv => rhs; rw [← sb_bl nm2]
            rw [show (⟨#[44]⟩ : ByteArray) = sb [44] from rfl, sb_apd, sb_apd]
            simp only [List.append_assoc]
          have hq0 : ((j : Int) == 0) = false := by simp; omega
          clear hj0
          go_wp2_with fail
          go_roundw
          case rel => first | exact ⟨j + 1, by omega, by go_num, by rw [HE.out], hB⟩ | ((repeat apply Exists.intro); exact ⟨⟨j + 1, by omega, by go_num, by rw [HE.out], hB⟩, rfl⟩)
          case measure => simp [intOf]; omega
      · have hjz : j = z.length := by omega
        have HF : Hid ((nmL l z).take j = nmL l z) := by show _ = _; rw [List.take_of_length_le]; simp [nmL]; omega
        clear hzz
        go_wp2_with fail
        go_ret
        exact ⟨by rw [HF.out]; rfl, hB⟩
end Go.Proofs.YtajcdaclbammaaaDoor
