/- Contracts: the fewest drills that train all letters (the program). -/
import Derived.Test.YtnjmjopbeojfoaaDr8
import Derived.Test.YtnjmjopbeojfoaaCh
namespace Go.Proofs.Ytnjmjopbeojfoaa
open Go.RowKit Go.BigFrame
attribute [local go_sem] sub_cell sub_frozen drewN_setCell sb_toList mt_toList cons_beq_nil nil_beq_nil

theorem pow_bd {n : Nat} (h : n ≤ 20) : 2 ^ n ≤ 1048576 := Nat.le_trans (Nat.pow_le_pow_right (by omega) h) (by decide)
theorem shl_one {n : Nat} (h : n ≤ 20) : IntKind.i64.wrap (2 ^ n) = ((2 ^ n : Nat) : Int) := by
  have h1 := pow_bd h
  have e : (2 : Int) ^ n = ((2 ^ n : Nat) : Int) := by rw [Int.natCast_pow]; rfl
  rw [e]
  generalize 2 ^ n = K at h1
  simp [IntKind.wrap, IntKind.signed, IntKind.bits]
  omega
section
variable {P : List Int → Bool} {n k : Nat} {b : List Int}
theorem fewI_no (h : P (chsN k n) = false) : fewI P n (k + 1) = fewI P n k := by simp [fewI, h]
theorem fewI_first (h : P (chsN k n) = true) (h2 : fewI P n k = none) : fewI P n (k + 1) = some (chsN k n) := by simp [fewI, h, h2]
theorem fewI_less (h : P (chsN k n) = true) (h2 : fewI P n k = some b) (h3 : lessLn (chsN k n) b = true) : fewI P n (k + 1) = some (chsN k n) := by simp [fewI, h, h2, h3]
theorem fewI_keep (h : P (chsN k n) = true) (h2 : fewI P n k = some b) (h3 : lessLn (chsN k n) b = false) : fewI P n (k + 1) = some b := by simp [fewI, h, h2, h3]
end
theorem chs_idx (set n : Nat) : IdxIn n (chsN set n) := fun x hx => Rsg_mem (chsN_rsg set n) x hx
set_option maxRecDepth 20000 in
set_option maxHeartbeats 8000000 in
theorem c_iFewestDrills (A : Option Addr) (n c : Nat) (l : List TDrill) (s : ByteArray) (w : World) (ha : Sl drillC w w.heap.size 3 A n l) (hsz : DrSz l) (hn : n ≤ 1048576) (hs : s.size ≤ maxLen) :
    Calls Try.prog 36 #[.slice A n c, .string s] w (IntsPost (fewA l (bl s)) (fewC l (bl s)) w) := by
  have hl := ha.1
  cases g : drsB l
  · obtain ⟨ea, ec⟩ := few_bad (s := bl s) (.inl g)
    rw [ea, ec]
    clear ea ec
    have C := Lib.hid (c_iValidDrills A n c l _ g w ha hsz hn)
    clear g ha hsz hl
    go_enter Try.func36, Try.ntmps36
    go_wp2_with (go_at_call 23; refine C.out.mono ?_; rintro r_ w1 ⟨rfl, hb1⟩)
    go_returns
    exact IntsPost.err hb1
  have C := Lib.hid (c_iValidDrills A n c l _ g w ha hsz hn)
  cases g1 : needL (bl s)
  · obtain ⟨ea, ec⟩ := few_bad (l := l) (s := bl s) (.inr g1)
    rw [ea, ec]
    clear ea ec
    have D1 := Lib.hid (fun (W : World) => c_areNeeded s _ g1 W hs)
    clear g g1 ha hsz hl
    go_enter Try.func36, Try.ntmps36
    go_wp2_with (first | (go_at_call 23; refine C.out.mono ?_; rintro r_ w1 ⟨rfl, hb1⟩) | (go_at_call 43; refine (D1.out _).mono ?_; rintro r_ w2 ⟨rfl, nd, rfl⟩))
    go_returns
    exact IntsPost.err (below_drewN hb1 _)
  have D1 := Lib.hid (fun (W : World) => c_areNeeded s _ g1 W hs)
  have hs30 := need_len g1
  have hn10 := (drs_ok g).1
  rw [hl] at hn10
  have hpw := pow_bd (n := n) (by omega)
  have hsh := shl_one (n := n) (by omega)
  obtain ⟨K, hK⟩ : ∃ K, 2 ^ n = K := ⟨_, rfl⟩
  rw [hK] at hsh hpw
  have HK := Lib.hid hK
  have HL := Lib.hid hl
  have G := Lib.hid g
  have G1 := Lib.hid g1
  have HA := Lib.hid ha
  have HSZ := Lib.hid hsz
  clear g g1 ha hsz hl hK
  go_enter Try.func36, Try.ntmps36
  go_wp2_with (first | (go_at_call 23; refine C.out.mono ?_; rintro r_ w1 ⟨rfl, hb1⟩) | (go_at_call 43; refine (D1.out _).mono ?_; rintro r_ w2 ⟨rfl, nd, rfl⟩; have hb2 := below_drewN hb1 nd; have hz2 := hb2.size))
  go_loopw [6, 7, 8, 9, 22] (fun v f _ _ i wr => ∃ (k : Nat) (bz : List Int) (b : Bool), k ≤ K ∧ i = .int .i64 k ∧ f = .bool b ∧ Below w.heap.size w wr ∧ Hid (wr.ownsRow w.heap.size 2 1 v bz.length (bz.map (Value.int .i64))) ∧ Hid ((b = false ∧ fewI (allTr l (bl s)) n k = none) ∨ (b = true ∧ fewI (allTr l (bl s)) n k = some bz))) (fun _ _ _ _ i _ => K - (intOf i).toNat)
  case atStart => exact ⟨0, [], false, Nat.zero_le _, rfl, rfl, by (repeat' (first | (with_reducible exact Below.refl _ _) | (with_reducible assumption) | (with_reducible refine below_drewN ?_ _) | (with_reducible refine Below.drew ?_) | (with_reducible refine Below.alloc ?_ ?_ _) | (with_reducible refine Below.setCell ?_ ?_ _) | go_size)), World.ownsRow_made _ _ 0 hz2 (by simp [maxLen]) rfl, .inl ⟨rfl, rfl⟩⟩
  case round =>
    clear hb1 hb2 hsh
    obtain ⟨k, bz, b, hk, rfl, rfl, hB, hown, hinv⟩ := hrel
    have hz1 := hB.size
    obtain ⟨bn, hbn⟩ : ∃ bn, bz.length = bn := ⟨_, rfl⟩
    rw [hbn] at hown
    have HBN := Lib.hid hbn
    clear hbn
    obtain ⟨A0, c0, rfl⟩ := own_slice hown.out
    by_cases hlt : k < K
    · obtain ⟨sn, hsn⟩ : ∃ sn, (chsN k n).length = sn := ⟨_, rfl⟩
      have hsn10 := chsN_len k n
      rw [hsn] at hsn10
      have HSN := Lib.hid hsn
      obtain ⟨q, hq⟩ : ∃ q, leftL l (chsN k n) (bl s) = q := ⟨_, rfl⟩
      have HLF := Lib.hid (fun (S : Option Addr) (d : Nat) (W : World) (hW : Below w.heap.size w W) (hS : W.ownsRow wr.heap.size 2 1 (.slice S sn d) sn ((chsN k n).map (Value.int .i64))) => hq ▸ c_left A S n c sn d l (chsN k n) s W (HA.out.later hW) (zs_ownN hS) HSZ.out (chs_idx k n) (by omega) (by omega) (by omega))
      clear hsn
      cases q with
      | cons a t =>
        have E := Lib.hid (fewI_no (P := allTr l (bl s)) (n := n) (k := k) (by simp [allTr, hq]))
        clear hq
        go_wp2_with (first | (go_at_call 63; refine (c_chosen k n _ (by omega) (by omega)).mono ?_; intro r_ w3 h_; obtain ⟨A1, c1, rfl, o1, b1⟩ := ZsPost.elim h_ HSN.out; have hz3 := b1.size; have B1 := Lib.hid (hB.trans (b1.mono hz1)); have O1 := Lib.hid o1; have OB := Lib.hid (own_below hown.out b1); clear h_ o1 b1) | (go_at_call 59; refine (HLF.out _ _ _ B1.out O1.out).mono ?_; rintro r_ w4 ⟨rfl, b4⟩; have B4 := Lib.hid (B1.out.trans (b4.mono B1.out.size)); have OB4 := Lib.hid (own_below OB.out b4); clear b4))
        go_roundw
        case rel => first | exact ⟨k + 1, bz, b, by omega, by go_num, rfl, B4.out, by show World.ownsRow _ _ _ _ _ _ _; rw [HBN.out]; exact OB4.out, by show (_ ∨ _); rw [E.out]; exact hinv.out⟩ | ((repeat apply Exists.intro); exact ⟨⟨k + 1, bz, b, by omega, by go_num, rfl, B4.out, by show World.ownsRow _ _ _ _ _ _ _; rw [HBN.out]; exact OB4.out, by show (_ ∨ _); rw [E.out]; exact hinv.out⟩, rfl⟩)
        case measure => simp [intOf]; omega
      | nil =>
        have HP : Hid (allTr l (bl s) (chsN k n) = true) := by show _ = _; simp [allTr, hq]
        clear hq
        rcases hinv.out with ⟨rfl, hf⟩ | ⟨rfl, hf⟩
        · have E := Lib.hid (fewI_first HP.out hf)
          clear hf hinv
          go_wp2_with (first | (go_at_call 63; refine (c_chosen k n _ (by omega) (by omega)).mono ?_; intro r_ w3 h_; obtain ⟨A1, c1, rfl, o1, b1⟩ := ZsPost.elim h_ HSN.out; have hz3 := b1.size; have B1 := Lib.hid (hB.trans (b1.mono hz1)); have O1 := Lib.hid o1; clear h_ o1 b1) | (go_at_call 59; refine (HLF.out _ _ _ B1.out O1.out).mono ?_; rintro r_ w4 ⟨rfl, b4⟩; have B4 := Lib.hid (B1.out.trans (b4.mono B1.out.size)); have O4 := Lib.hid (own_base (own_below O1.out b4) hz1); clear b4))
          go_roundw
          case rel => first | exact ⟨k + 1, chsN k n, true, by omega, by go_num, rfl, B4.out, by show World.ownsRow _ _ _ _ _ _ _; rw [HSN.out]; exact O4.out, .inr ⟨rfl, E.out⟩⟩ | ((repeat apply Exists.intro); exact ⟨⟨k + 1, chsN k n, true, by omega, by go_num, rfl, B4.out, by show World.ownsRow _ _ _ _ _ _ _; rw [HSN.out]; exact O4.out, .inr ⟨rfl, E.out⟩⟩, rfl⟩)
          case measure => simp [intOf]; omega
        · have hbn10 : bn ≤ 1048576 := by
            have h1 := ((fewI_inv (allTr l (bl s)) n k).1 bz hf).1
            have h2 := Rsg_len h1 (by omega)
            rw [HBN.out] at h2
            omega
          have HF := Lib.hid hf
          clear hf hinv
          have mk_yes : lessLn (chsN k n) bz = true → Hid (fewI (allTr l (bl s)) n (k + 1) = some (chsN k n)) := fun h => fewI_less HP.out HF.out h
          have mk_no : lessLn (chsN k n) bz = false → Hid (fewI (allTr l (bl s)) n (k + 1) = some bz) := fun h => fewI_keep HP.out HF.out h
          by_cases h1 : sn < bn
          · have E := mk_yes (by simp [lessLn, HSN.out, HBN.out, h1])
            clear mk_yes mk_no
            go_wp2_with (first | (go_at_call 63; refine (c_chosen k n _ (by omega) (by omega)).mono ?_; intro r_ w3 h_; obtain ⟨A1, c1, rfl, o1, b1⟩ := ZsPost.elim h_ HSN.out; have hz3 := b1.size; have B1 := Lib.hid (hB.trans (b1.mono hz1)); have O1 := Lib.hid o1; clear h_ o1 b1) | (go_at_call 59; refine (HLF.out _ _ _ B1.out O1.out).mono ?_; rintro r_ w4 ⟨rfl, b4⟩; have B4 := Lib.hid (B1.out.trans (b4.mono B1.out.size)); have O4 := Lib.hid (own_base (own_below O1.out b4) hz1); clear b4))
            go_roundw
            case rel => first | exact ⟨k + 1, chsN k n, true, by omega, by go_num, rfl, B4.out, by show World.ownsRow _ _ _ _ _ _ _; rw [HSN.out]; exact O4.out, .inr ⟨rfl, E.out⟩⟩ | ((repeat apply Exists.intro); exact ⟨⟨k + 1, chsN k n, true, by omega, by go_num, rfl, B4.out, by show World.ownsRow _ _ _ _ _ _ _; rw [HSN.out]; exact O4.out, .inr ⟨rfl, E.out⟩⟩, rfl⟩)
            case measure => simp [intOf]; omega
          · by_cases h2 : sn = bn
            · subst h2
              obtain ⟨v, hv⟩ : ∃ v, cmpZ (chsN k n) bz = v := ⟨_, rfl⟩
              have HCM := Lib.hid (fun (S : Option Addr) (d : Nat) (W : World) (o1 : W.ownsRow wr.heap.size 2 1 (.slice S sn d) sn ((chsN k n).map (Value.int .i64))) (o2 : W.ownsRow w.heap.size 2 1 (.slice A0 sn c0) sn (bz.map (Value.int .i64))) => hv ▸ c_compareNumbers S A0 sn sn d c0 (chsN k n) bz W (zs_ownN o1) (zs_ownN o2) (by omega) (by omega))
              have HV := Lib.hid hv
              clear hv
              by_cases h3 : v < 0
              · have E := mk_yes (by simp [lessLn, HSN.out, HBN.out, HV.out, h3])
                clear mk_yes mk_no
                go_wp2_with (first | (go_at_call 63; refine (c_chosen k n _ (by omega) (by omega)).mono ?_; intro r_ w3 h_; obtain ⟨A1, c1, rfl, o1, b1⟩ := ZsPost.elim h_ HSN.out; have hz3 := b1.size; have B1 := Lib.hid (hB.trans (b1.mono hz1)); have O1 := Lib.hid o1; have OB := Lib.hid (own_below hown.out b1); clear h_ o1 b1) | (go_at_call 59; refine (HLF.out _ _ _ B1.out O1.out).mono ?_; rintro r_ w4 ⟨rfl, b4⟩; have B4 := Lib.hid (B1.out.trans (b4.mono B1.out.size)); have O1b := Lib.hid (own_below O1.out b4); have O4 := Lib.hid (own_base (own_below O1.out b4) hz1); have OB4 := Lib.hid (own_below OB.out b4); clear b4) | (go_at_call 64; refine (HCM.out _ _ _ O1b.out OB4.out).mono ?_; rintro r_ w5 ⟨rfl, nd5, rfl⟩))
                go_roundw
                case rel => first | exact ⟨k + 1, chsN k n, true, by omega, by go_num, rfl, below_drewN B4.out nd5, by show World.ownsRow _ _ _ _ _ _ _; rw [HSN.out]; exact own_below O4.out (below_drewN (Below.refl _ _) nd5), .inr ⟨rfl, E.out⟩⟩ | ((repeat apply Exists.intro); exact ⟨⟨k + 1, chsN k n, true, by omega, by go_num, rfl, below_drewN B4.out nd5, by show World.ownsRow _ _ _ _ _ _ _; rw [HSN.out]; exact own_below O4.out (below_drewN (Below.refl _ _) nd5), .inr ⟨rfl, E.out⟩⟩, rfl⟩)
                case measure => simp [intOf]; omega
              · have E := mk_no (by simp [lessLn, HSN.out, HBN.out, HV.out, h3])
                clear mk_yes mk_no
                go_wp2_with (first | (go_at_call 63; refine (c_chosen k n _ (by omega) (by omega)).mono ?_; intro r_ w3 h_; obtain ⟨A1, c1, rfl, o1, b1⟩ := ZsPost.elim h_ HSN.out; have hz3 := b1.size; have B1 := Lib.hid (hB.trans (b1.mono hz1)); have O1 := Lib.hid o1; have OB := Lib.hid (own_below hown.out b1); clear h_ o1 b1) | (go_at_call 59; refine (HLF.out _ _ _ B1.out O1.out).mono ?_; rintro r_ w4 ⟨rfl, b4⟩; have B4 := Lib.hid (B1.out.trans (b4.mono B1.out.size)); have O1b := Lib.hid (own_below O1.out b4); have O4 := Lib.hid (own_base (own_below O1.out b4) hz1); have OB4 := Lib.hid (own_below OB.out b4); clear b4) | (go_at_call 64; refine (HCM.out _ _ _ O1b.out OB4.out).mono ?_; rintro r_ w5 ⟨rfl, nd5, rfl⟩))
                go_roundw
                case rel => first | exact ⟨k + 1, bz, true, by omega, by go_num, rfl, below_drewN B4.out nd5, by show World.ownsRow _ _ _ _ _ _ _; rw [HBN.out]; exact own_below OB4.out (below_drewN (Below.refl _ _) nd5), .inr ⟨rfl, E.out⟩⟩ | ((repeat apply Exists.intro); exact ⟨⟨k + 1, bz, true, by omega, by go_num, rfl, below_drewN B4.out nd5, by show World.ownsRow _ _ _ _ _ _ _; rw [HBN.out]; exact own_below OB4.out (below_drewN (Below.refl _ _) nd5), .inr ⟨rfl, E.out⟩⟩, rfl⟩)
                case measure => simp [intOf]; omega
            · have E := mk_no (by simp [lessLn, HSN.out, HBN.out, h1, h2])
              have h2I : ((sn : Int) == (bn : Int)) = false := by rw [beq_eq_false_iff_ne]; omega
              clear mk_yes mk_no h2
              go_wp2_with (first | (go_at_call 63; refine (c_chosen k n _ (by omega) (by omega)).mono ?_; intro r_ w3 h_; obtain ⟨A1, c1, rfl, o1, b1⟩ := ZsPost.elim h_ HSN.out; have hz3 := b1.size; have B1 := Lib.hid (hB.trans (b1.mono hz1)); have O1 := Lib.hid o1; have OB := Lib.hid (own_below hown.out b1); clear h_ o1 b1) | (go_at_call 59; refine (HLF.out _ _ _ B1.out O1.out).mono ?_; rintro r_ w4 ⟨rfl, b4⟩; have B4 := Lib.hid (B1.out.trans (b4.mono B1.out.size)); have O1b := Lib.hid (own_below O1.out b4); have O4 := Lib.hid (own_base (own_below O1.out b4) hz1); have OB4 := Lib.hid (own_below OB.out b4); clear b4))
              go_roundw
              case rel => first | exact ⟨k + 1, bz, true, by omega, by go_num, rfl, B4.out, by show World.ownsRow _ _ _ _ _ _ _; rw [HBN.out]; exact OB4.out, .inr ⟨rfl, E.out⟩⟩ | ((repeat apply Exists.intro); exact ⟨⟨k + 1, bz, true, by omega, by go_num, rfl, B4.out, by show World.ownsRow _ _ _ _ _ _ _; rw [HBN.out]; exact OB4.out, .inr ⟨rfl, E.out⟩⟩, rfl⟩)
              case measure => simp [intOf]; omega
    · obtain rfl : k = K := by omega
      rcases hinv.out with ⟨rfl, hf⟩ | ⟨rfl, hf⟩
      · have hf2 := hf
        rw [← HK.out, fewI_eq] at hf2
        have E : Hid (fewA l (bl s) = [] ∧ fewC l (bl s) = 3) := few_none G.out G1.out (by rw [HL.out]; exact hf2)
        clear hf hf2 hinv
        go_wp2_with fail
        go_returns
        rw [E.out.1, E.out.2]
        exact IntsPost.err hB
      · have hf2 := hf
        rw [← HK.out, fewI_eq] at hf2
        have E : Hid (fewA l (bl s) = bz ∧ fewC l (bl s) = 0) := few_some G.out G1.out (by rw [HL.out]; exact hf2)
        clear hf hf2 hinv
        go_wp2_with fail
        go_returns
        rw [E.out.1, E.out.2]
        exact IntsPost.mk_ HBN.out hown.out hB
end Go.Proofs.Ytnjmjopbeojfoaa
