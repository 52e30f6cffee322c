/- Contracts: the text of a lesson: the program. -/
import Derived.Test.YtajcdaclbammaaaDoorLt1
import Derived.Test.YtajcdaclbammaaaDoorSpc
import Derived.Test.YtajcdaclbammaaaDoorJn
namespace Go.Proofs.YtajcdaclbammaaaDoor
open Go.RowKit Go.BigFrame
attribute [local go_sem] sub_cell sub_frozen drewN_setCell

theorem own_cell {w : World} {base n c g sz j : Nat} {e : TypeId} {xs : List Value} {u : Value} (h : w.ownsRow base e sz (.slice (some ⟨g, 0, none⟩) n c) n xs) (hj : xs[j]? = some u) : w.cell? ⟨g, j, none⟩ = some u := by
  have := h.cells (g := g) rfl j u hj
  rwa [Addr.add_lit, Nat.zero_add] at this
theorem sb_data (l : List UInt8) : (sb l).data.toList = l := rfl
theorem sb_datas (T : List (List UInt8)) : (T.map sb).map (·.data.toList) = T := by
  induction T with
  | nil => rfl
  | cons a T ih => rw [List.map_cons, List.map_cons, ih, sb_data]
theorem c_JoinS (g n cc base : Nat) (T : List (List UInt8)) (w : World) (h : w.ownsRow base 9 1 (.slice (some ⟨g, 0, none⟩) n cc) n (T.map tv)) (hl : T.length = n) (hn : n ≤ 1048576) (hlen : (Lib.join T [44]).length ≤ 1048576) (hg : g < w.heap.size) :
    Calls Tryd.prog 17 #[.slice (some ⟨g, 0, none⟩) n cc, .string ⟨#[44]⟩] w fun e w' => e = .returned (.string (sb (Lib.join T [44]))) ∧ Below w.heap.size w w' := by
  subst hl
  have hcap := own_cap h
  have key := c_Join g 0 cc (T.map sb) ⟨#[44]⟩ w (fun j x hx => by
    rw [Nat.zero_add]
    refine own_cell h ?_
    rw [List.getElem?_map] at hx ⊢
    cases hT : T[j]? with
    | none => rw [hT] at hx; cases hx
    | some a => rw [hT] at hx; injection hx with hx; subst hx; rfl) hg (by rw [List.length_map]; omega) (by rw [List.length_map]; exact hcap) (by rw [sb_datas]; show (Lib.join T [44]).length ≤ _; omega)
  rw [List.length_map, sb_datas] at key
  exact key
theorem nmL_len (l : List TLesson) (z : List Int) : (nmL l z).length = z.length := by simp [nmL]
set_option maxRecDepth 20000 in
set_option maxHeartbeats 8000000 in
theorem c_iLessonText (A : Option Addr) (n c : Nat) (l : List TLesson) (k : Int) (w : World) (ha : Ls w A n l) (hsz : LsB l) (hn : n ≤ 1048576) (ht : Tab w) :
    Calls Tryd.prog 7 #[.slice A n c, .int .i64 k] w fun e w' => e = .returned (.string (ltV l k)) ∧ Below w.heap.size w w' := by
  have hl := ha.len
  subst hl
  have HA := Lib.hid ha
  have HSZ := Lib.hid hsz
  have HTB := Lib.hid ht
  clear ha hsz ht
  rcases lt_cases l k with ⟨g, e⟩ | ⟨g, g2, e⟩ | ⟨g, g2, p, nm, lt, z, hr, rfl, hp, hx, e⟩ <;> rw [e] <;> clear e <;> have G := Lib.hid g
  · clear g
    go_enter Tryd.func7, Tryd.ntmps7
    go_wp2_with (go_at_call 14; refine (c_iValidLessons _ _ _ l _ G.out _ HA.out HSZ.out hn).mono ?_; rintro r_ w1 ⟨rfl, hb1⟩)
    go_ret
    exact ⟨rfl, hb1⟩
  · have G2 := Lib.hid g2
    clear g g2
    go_enter Tryd.func7, Tryd.ntmps7
    go_wp2_with (first | (go_at_call 14; refine (c_iValidLessons _ _ _ l _ G.out _ HA.out HSZ.out hn).mono ?_; rintro r_ w1 ⟨rfl, hb1⟩) | (go_at_call 15; refine (c_between _ _ _ _ G2.out _).mono ?_; rintro e w' ⟨rfl, rfl⟩))
    go_ret
    exact ⟨rfl, hb1⟩
  · have G2 := Lib.hid g2
    have h12 := les_len g
    obtain ⟨hs1, hs2, ⟨hr0, hr1⟩, hri⟩ := les_bounds g hx
    simp only at hs1 hs2 hr0 hr1 hri
    have hzl := rises_lenZ hri h12
    have HRI := Lib.hid hri
    obtain ⟨b, o, nm', lt', S, cc, z', hr', rfl, hb2, hx', hK⟩ := les_all HA.out hp
    rw [hx] at hx'
    simp only [Option.some.injEq, Prod.mk.injEq] at hx'
    obtain ⟨rfl, rfl, rfl, rfl⟩ := hx'
    have K := Lib.hid hK
    have hpI : (p : Int) < (l.length : Int) := by omega
    have hp0 : (0 : Int) ≤ (p : Int) := by omega
    have hit : (sb (Lib.itoa hr)).size ≤ 21 := by rw [sb_size]; exact Lib.itoa_length_le hr (by omega) (by omega)
    have HH := Lib.hid (head_sb nm lt hr)
    have HHS := Lib.hid (head_size hs1 hs2 ⟨hr0, hr1⟩)
    have HAS := Lib.hid (aft_size (nmL_bd g z))
    clear g g2 hx hri hK
    go_enter Tryd.func7, Tryd.ntmps7
    go_wp2_with (first | (go_at_call 14; refine (c_iValidLessons _ _ _ l _ G.out _ HA.out HSZ.out hn).mono ?_; rintro r_ w1 ⟨rfl, hb1⟩; obtain ⟨hb1', c0, c1, c2, c3, _⟩ := K.out _ hb1; have HT := fun o => Lib.hid (HTB.out.later (hb1.alloc hb1.size o)); have HBA := Lib.hid (fun o => hb1.alloc hb1.size o)) | (go_at_call 15; refine (c_between _ _ _ _ G2.out _).mono ?_; rintro e w' ⟨rfl, rfl⟩))
    have hz1 := hb1.size
    refine wp_region_below (by kernel_rfl) (by kernel_rfl) ?_
    repeat (go_big_quiet_step ((go_at_call 16; refine qBg (c_Decimal _ (by omega) (by omega) _ ((HT _).out.later (Later.h _))) (by simp) ?_; intro w_ h_; first | exact h_ | exact h_.below | (subst h_; exact Below.refl _ _) | (subst h_; (repeat' (first | (with_reducible exact Below.refl _ _) | (with_reducible assumption) | (with_reducible refine below_drewN ?_ _) | (with_reducible refine Below.drew ?_) | (with_reducible refine Below.alloc ?_ ?_ _) | (with_reducible refine Below.setCell ?_ ?_ _) | go_size))) | (obtain ⟨n_, rfl⟩ := h_; (repeat' (first | (with_reducible exact Below.refl _ _) | (with_reducible assumption) | (with_reducible refine below_drewN ?_ _) | (with_reducible refine Below.drew ?_) | (with_reducible refine Below.alloc ?_ ?_ _) | (with_reducible refine Below.setCell ?_ ?_ _) | go_size))))))
    refine wpQuiet_nil ?_
    intro _ hw'
    obtain ⟨⟨w9, hb9⟩, hw''⟩ := hw'
    subst hw''
    have hB9 := (HBA.out _).trans (hb9.mono (by simp; omega))
    have hL9 := (hb9.block w1.heap.size (by simp)).trans (heap_alloc_new w1 _)
    obtain ⟨hl9, k0, k1, k2, k3⟩ := cells4 hL9
    have hz9 := hb9.size
    simp only [World.size_alloc] at hz9
    clear c0 c1 c2 c3 hb1' hL9 HT HBA hb9
    rename World => w9
    have hl10 : w1.heap.size < w9.heap.size + 1 := by omega
    go_wp2_with fail
    go_loopw [7, 41] (fun v i wr => ∃ (j g0 c1 : Nat), j ≤ z.length ∧ i = .int .i64 j ∧ v = .slice (some ⟨g0, 0, none⟩) j c1 ∧ g0 < wr.heap.size ∧ Below w.heap.size w wr ∧ Hid (wr.ownsRow w9.heap.size 9 1 (.slice (some ⟨g0, 0, none⟩) j c1) j (((nmL l z).take j).map tv)) ∧ w9.heap.size ≤ wr.heap.size) (fun _ i _ => z.length - (intOf i).toNat)
    case atStart => exact ⟨0, w9.heap.size, 0, Nat.zero_le _, rfl, rfl, by simp, by (repeat' (first | (with_reducible exact Below.refl _ _) | (with_reducible assumption) | (with_reducible refine below_drewN ?_ _) | (with_reducible refine Below.drew ?_) | (with_reducible refine Below.alloc ?_ ?_ _) | (with_reducible refine Below.setCell ?_ ?_ _) | go_size)), World.ownsRow_made w9 #[] 0 (Nat.le_refl _) (by simp [maxLen]) rfl, by simp⟩
    case round =>
      obtain ⟨j, g0, c1, hj, rfl, rfl, hg0, hB, hrow, hzr⟩ := hrel
      obtain ⟨hb1', _, _, _, _, hzz⟩ := K.out _ hB
      by_cases hlt : j < z.length
      · obtain ⟨bz, oz, x, hAz, hbz1, hbz2, hy, cz⟩ := z_at hzz (Below.refl _ _) hlt
        subst hAz
        obtain ⟨hx0, hx1⟩ := risesZ_bd HRI.out hy
        obtain ⟨q, rfl⟩ : ∃ q : Nat, x = q := ⟨x.toNat, by omega⟩
        have hqn : q < l.length := by omega
        obtain ⟨nm2, lt2, S2, cc2, z2, hr2, _, hx2, hK2⟩ := les_allB HA.out hqn
        obtain ⟨_, d0, _, _, _, _⟩ := hK2 _ hB
        have HE : Hid (((nmL l z).take (j + 1)).map tv = ((nmL l z).take j).map tv ++ [.string nm2]) := by
          show _ = _
          rw [List.take_add_one, nmL_at hy hx2, Option.toList_some, List.map_append, List.map_singleton, tv, sb_bl]
        have hqI : (q : Int) < (l.length : Int) := by omega
        have hjI : (j : Int) < (z.length : Int) := by omega
        clear hzz hy hx2 hK2 k0 k1 k2 k3
        go_wp2_with (at_builtin; refine app1 rfl (.tmp 45) (.tmp 51) _ rfl w9.heap.size 9 _ 16 Tryd.underlying39 info_text rfl _ _ rfl _ _ _ rfl hrow.out rfl (by omega) (by omega) (by omega) ?_; intro v3 w3 hown3 hb3 hg3; obtain ⟨g3, c3, rfl, hg3a, hg3b⟩ := hown3.form (by omega); have HW3 := Lib.hid hown3; have HB3 := Lib.hid (hB.trans (hb3.mono (by omega))); have hz3' := hg3.size; clear hown3 hb3 hg3)
        go_roundw
        case rel => exact ⟨j + 1, g3, c3, by omega, by go_num, rfl, hg3b, HB3.out, by show World.ownsRow _ _ _ _ _ _ _; rw [HE.out]; exact HW3.out, by omega⟩
        case measure => simp [intOf]; omega
      · have hjz : j = z.length := by omega
        have hwz := hB.size
        by_cases h0 : z.length = 0
        · have hj0 : j = 0 := by omega
          have hq0 : ¬ (0 : Int) < (j : Int) := by omega
          have HF : Hid (headL nm lt hr ++ aftL (nmL l z) = headL nm lt hr) := by
            have : nmL l z = [] := List.eq_nil_of_length_eq_zero (by rw [nmL_len]; exact h0)
            show _ = _
            rw [this, aft_nil, List.append_nil]
          clear hzz h0 k0 k1 k2 k3 hjz
          go_wp2_with fail
          go_ret
          exact ⟨by rw [HF.out, ← HH.out]; rfl, hB⟩
        · have hq0 : (0 : Int) < (j : Int) := by omega
          have hTL : Hid ((nmL l z).take j = nmL l z) := by show _ = _; rw [List.take_of_length_le]; rw [nmL_len]; omega
          have HR : Hid (wr.ownsRow w9.heap.size 9 1 (.slice (some ⟨g0, 0, none⟩) j c1) j ((nmL l z).map tv)) := by have := hrow.out; rwa [hTL.out] at this
          have hne : nmL l z ≠ [] := by intro e; have h9 := congrArg List.length e; rw [nmL_len] at h9; exact h0 (by simpa using h9)
          have haft : aftL (nmL l z) = [32, 97, 102, 116, 101, 114, 32] ++ Lib.join (nmL l z) [44] := by rw [aftL, if_neg hne]
          have hjl : (Lib.join (nmL l z) [44]).length ≤ 400 := by
            have h1 := HAS.out j
            rw [hTL.out, haft] at h1
            simp only [List.length_append, List.length_cons, List.length_nil] at h1
            omega
          have HLN : Hid ((nmL l z).length = j) := by show _ = _; rw [nmL_len]; omega
          obtain ⟨J, hJ⟩ : ∃ J, Lib.join (nmL l z) [44] = J := ⟨_, rfl⟩
          have hJs : (sb J).size ≤ 400 := by rw [sb_size, ← hJ]; exact hjl
          have HF : Hid (sb (headL nm lt hr ++ aftL (nmL l z)) = (nm ++ ⟨#[32]⟩ ++ sb (Lib.itoa hr) ++ ⟨#[104, 32, 91]⟩ ++ lt ++ ⟨#[93]⟩) ++ (⟨#[32, 97, 102, 116, 101, 114, 32]⟩ ++ sb J)) := by
            show _ = _
            rw [HH.out, haft, hJ, show (⟨#[32, 97, 102, 116, 101, 114, 32]⟩ : ByteArray) = sb [32, 97, 102, 116, 101, 114, 32] from rfl, sb_apd, sb_apd]
          have hhd : (nm ++ ⟨#[32]⟩ ++ sb (Lib.itoa hr) ++ ⟨#[104, 32, 91]⟩ ++ lt ++ ⟨#[93]⟩).size ≤ 150 := by rw [HH.out, sb_size]; exact HHS.out
          have CJ := Lib.hid (c_JoinS g0 j c1 _ (nmL l z) _ HR.out HLN.out (by omega) (by omega) hg0)
          rw [hJ] at CJ
          generalize nm ++ ⟨#[32]⟩ ++ sb (Lib.itoa hr) ++ ⟨#[104, 32, 91]⟩ ++ lt ++ ⟨#[93]⟩ = hd at HF hhd ⊢
          clear hzz h0 k0 k1 k2 k3 hJ haft hjl hne hrow hjz
          go_wp2_with (go_at_call 17; refine CJ.out.mono ?_; rintro r_ w8 ⟨rfl, hb8⟩)
          go_ret
          exact ⟨by rw [HF.out]; rfl, hB.trans (hb8.mono hwz)⟩
end Go.Proofs.YtajcdaclbammaaaDoor
