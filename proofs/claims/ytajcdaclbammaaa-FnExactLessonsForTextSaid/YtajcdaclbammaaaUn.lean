/- Contracts: UntaughtLetters. -/
import Derived.Test.YtajcdaclbammaaaKn2
import Derived.Test.YtajcdaclbammaaaCh
namespace Go.Proofs.Ytajcdaclbammaaa
open Go.RowKit Go.BigFrame
attribute [local go_sem] sub_cell sub_frozen drewN_setCell

theorem pow_bd {n : Nat} (h : n ≤ 20) : 2 ^ n ≤ 1048576 := Nat.le_trans (Nat.pow_le_pow_right (by omega) h) (by decide)
theorem shl_one {n : Nat} (h : n ≤ 20) : IntKind.i64.wrap (2 ^ n) = ((2 ^ n : Nat) : Int) := by
  have h1 := pow_bd h
  have e : (2 : Int) ^ n = ((2 ^ n : Nat) : Int) := by rw [Int.natCast_pow]; rfl
  rw [e]
  generalize 2 ^ n = K at h1
  simp [IntKind.wrap, IntKind.signed, IntKind.bits]
  omega
/-- All lessons. -/
def allZ : Nat → List Int
  | 0 => []
  | n + 1 => allZ n ++ [(n : Int)]
theorem allZ_len (n : Nat) : (allZ n).length = n := by
  induction n with
  | zero => rfl
  | succ n ih => simp [allZ, ih]
theorem allZ_get {n k : Nat} (h : k < n) : (allZ n)[k]? = some (k : Int) := by
  induction n with
  | zero => omega
  | succ n ih =>
    rw [allZ]
    by_cases e : k = n
    · subst e
      rw [List.getElem?_append_right (by rw [allZ_len]; exact Nat.le_refl _), allZ_len]
      simp
    · rw [List.getElem?_append_left (by rw [allZ_len]; omega)]
      exact ih (by omega)
theorem allZ_rises (n : Nat) : risesZ 0 ((n : Int) - 1) (allZ n) = true := by
  refine risesZ_end (allZ_len n) ?_
  rw [allN, List.all_eq_true]
  intro i hi
  have hin : i < n := by simpa using hi
  have hb : betw (i : Int) 0 ((n : Int) - 1) = true := by simp [betw]; omega
  cases i with
  | zero => exact riseZ_zero (allZ_get hin) hb
  | succ i => rw [riseZ_succ (allZ_get (by omega)) (allZ_get hin) hb]; simp; omega
theorem rises_nil (n : Int) : risesZ 0 n [] = true := rfl
theorem chs_all {K n k : Nat} (hK : 2 ^ n = K) (hk : k ≤ n) : chsN (K - 1) k = allZ k := by
  induction k with
  | zero => rfl
  | succ k ih =>
    have hb : (K - 1).testBit k = true := by
      rw [← hK, Nat.testBit_two_pow_sub_one]
      simp; omega
    rw [chsN, if_pos hb, ih (by omega), allZ]
def untC (l : List TLesson) (t : ByteArray) : Int := if lesB l = true then (if textB 32 100 (bl t) = true then 0 else 2) else 1
def untV (l : List TLesson) (t : ByteArray) : ByteArray := if untC l t = 0 then sb (srt (memB (misK (knL l (allZ l.length)) (bl t)))) else ⟨#[]⟩
theorem unt_cases (l : List TLesson) (t : ByteArray) : (lesB l = false ∧ untC l t = 1 ∧ untV l t = ⟨#[]⟩) ∨ (lesB l = true ∧ textB 32 100 (bl t) = false ∧ untC l t = 2 ∧ untV l t = ⟨#[]⟩) ∨ (lesB l = true ∧ textB 32 100 (bl t) = true ∧ untC l t = 0 ∧ untV l t = sb (srt (memB (misK (knL l (allZ l.length)) (bl t))))) := by
  cases g : lesB l <;> cases h : textB 32 100 (bl t) <;> simp [untC, untV, g, h]
theorem takB_nil (l : List TLesson) : takB l [] = if lesB l = true then 0 else 1 := by rw [takB, rises_nil]; simp
theorem zs_nil (w : World) : Zs (w.alloc (.cells #[] 2)) (some ⟨w.heap.size, 0, none⟩) 0 [] :=
  zs_ownN (World.ownsRow_made (base := w.heap.size) (e := 2) (size := 1) w #[] 0 (by simp) (by simp [maxLen]) rfl)
set_option maxRecDepth 20000 in
set_option maxHeartbeats 4000000 in
theorem c_sUntaught (A : Option Addr) (n c : Nat) (l : List TLesson) (t : ByteArray) (w : World) (ha : Ls w A n l) (hsz : LsB l) (hn : n ≤ 1048576) (ht : t.size ≤ 1048576) :
    Calls Try.prog 18 #[.slice A n c, .string t] w fun e w' => e = .returned (.tuple #[.string (untV l t), .int .i64 (untC l t)]) ∧ Below w.heap.size w w' := by
  have hl := ha.len
  subst hl
  have HA := Lib.hid ha
  have HA1 := Lib.hid (fun o => ha.later (Below.alloc (Below.refl _ w) (Nat.le_refl _) o))
  have HSZ := Lib.hid hsz
  have htm : t.size ≤ maxLen := by unfold maxLen; omega
  have hk := takB_nil l
  clear ha hsz
  rcases unt_cases l t with ⟨g1, e1, e2⟩ | ⟨g1, g2, e1, e2⟩ | ⟨g1, g2, e1, e2⟩ <;> rw [e1, e2] <;> clear e1 e2 <;> rw [g1] at hk
  · have G1 : Hid (takB l [] = 1) := hk
    clear g1 hk
    go_enter Try.func18, Try.ntmps18
    go_wp2_with (go_at_call 36; refine (c_l18Taken _ _ _ _ _ _ l [] _ G1.out _ (HA1.out _) (zs_nil w) HSZ.out hn (by omega)).mono ?_; rintro r_ w1 ⟨rfl, hb1⟩; have hB1 := later hb1 (w := w) (by (repeat' (first | (with_reducible exact Below.refl _ _) | (with_reducible assumption) | (with_reducible refine below_drewN ?_ _) | (with_reducible refine Below.drew ?_) | (with_reducible refine Below.alloc ?_ ?_ _) | (with_reducible refine Below.setCell ?_ ?_ _) | go_size))))
    go_returns
    exact ⟨rfl, hB1⟩
  · have G1 : Hid (takB l [] = 0) := hk
    have G2 := Lib.hid g2
    clear g1 g2 hk
    go_enter Try.func18, Try.ntmps18
    go_wp2_with (first | (go_at_call 36; refine (c_l18Taken _ _ _ _ _ _ l [] _ G1.out _ (HA1.out _) (zs_nil w) HSZ.out hn (by omega)).mono ?_; rintro r_ w1 ⟨rfl, hb1⟩; have hB1 := later hb1 (w := w) (by (repeat' (first | (with_reducible exact Below.refl _ _) | (with_reducible assumption) | (with_reducible refine below_drewN ?_ _) | (with_reducible refine Below.drew ?_) | (with_reducible refine Below.alloc ?_ ?_ _) | (with_reducible refine Below.setCell ?_ ?_ _) | go_size)))) | (go_at_call 37; refine (c_l00Text _ _ _ G2.out _ htm).mono ?_; rintro e w' ⟨rfl, rfl⟩))
    go_returns
    exact ⟨rfl, hB1⟩
  · have G1 : Hid (takB l [] = 0) := hk
    have G2 := Lib.hid g2
    obtain ⟨X, hX⟩ : ∃ X, misK (knL l (allZ l.length)) (bl t) = X := ⟨_, rfl⟩
    have CM := Lib.hid (fun W => c_l18Missing (sb (srt (memB (knL l (allZ l.length))))) t W (srt_size _) ht)
    rw [bl_sb, misK_srt, hX] at CM
    rw [hX]
    clear g1 g2 hk hX
    go_enter Try.func18, Try.ntmps18
    go_wp2_with (first | (go_at_call 36; refine (c_l18Taken _ _ _ _ _ _ l [] _ G1.out _ (HA1.out _) (zs_nil w) HSZ.out hn (by omega)).mono ?_; rintro r_ w1 ⟨rfl, hb1⟩; have hB1 := later hb1 (w := w) (by (repeat' (first | (with_reducible exact Below.refl _ _) | (with_reducible assumption) | (with_reducible refine below_drewN ?_ _) | (with_reducible refine Below.drew ?_) | (with_reducible refine Below.alloc ?_ ?_ _) | (with_reducible refine Below.setCell ?_ ?_ _) | go_size))); have hz1 := hB1.size; clear hb1) | (go_at_call 37; refine (c_l00Text _ _ _ G2.out _ htm).mono ?_; rintro e w' ⟨rfl, rfl⟩))
    go_loopw [7, 8] (fun v i wr => ∃ k : Nat, k ≤ l.length ∧ i = .int .i64 k ∧ Below w1.heap.size w1 wr ∧ wr.ownsRow w1.heap.size 2 1 v k ((allZ k).map (Value.int .i64))) (fun _ i _ => l.length - (intOf i).toNat)
    case atStart => exact ⟨0, Nat.zero_le _, rfl, by (repeat' (first | (with_reducible exact Below.refl _ _) | (with_reducible assumption) | (with_reducible refine below_drewN ?_ _) | (with_reducible refine Below.drew ?_) | (with_reducible refine Below.alloc ?_ ?_ _) | (with_reducible refine Below.setCell ?_ ?_ _) | go_size)), World.ownsRow_made _ _ 0 (Nat.le_refl _) (by simp [maxLen]) rfl⟩
    case round =>
      obtain ⟨k, hk, rfl, hB, hown⟩ := hrel
      have hz := hB.size
      by_cases hlt : k < l.length
      · have HO := Lib.hid hown
        clear hown
        go_wp2_with (at_builtin; refine app1 rfl (.tmp 29) (.tmp 31) _ rfl w1.heap.size 2 _ 8 Try.underlying30 info_int64 rfl _ _ rfl _ k _ rfl HO.out rfl (by omega) (by omega) (by omega) ?_; intro v3 w3 hown3 hb3 _; have OW := Lib.hid hown3; have HB3 := Lib.hid hb3; clear hown3 hb3)
        go_roundw
        case rel => exact ⟨k + 1, by omega, by go_num, hB.trans HB3.out, by rw [allZ, List.map_append]; exact OW.out⟩
        case measure => simp [intOf]; omega
      · have hkn : k = l.length := by omega
        subst hkn
        obtain ⟨A', c', rfl⟩ := own_slice hown
        have HO := Lib.hid hown
        have HBW := Lib.hid (hB1.trans (hB.mono hz1))
        clear hown
        go_wp2_with (first | (go_at_call 39; refine (c_l18Known _ _ _ _ _ _ l (allZ l.length) _ (HA.out.later HBW.out) (zs_ownN HO.out) (allZ_rises _) HSZ.out hn hn).mono ?_; rintro r_ w4 ⟨rfl, hb4⟩; have hB4 := HBW.out.trans (hb4.mono HBW.out.size)) | (go_at_call 38; refine (CM.out _).mono ?_; rintro r_ w5 ⟨rfl, hb5⟩; have hB5 := hB4.trans (hb5.mono hB4.size)))
        go_returns
        exact ⟨rfl, hB5⟩
set_option maxRecDepth 20000 in
set_option maxHeartbeats 4000000 in
theorem c_iUntaught (A : Option Addr) (n c : Nat) (l : List TLesson) (t : ByteArray) (w : World) (ha : Ls w A n l) (hsz : LsB l) (hn : n ≤ 1048576) (ht : t.size ≤ 1048576) :
    Calls Try.prog 19 #[.slice A n c, .string t] w fun e w' => e = .returned (.tuple #[.string (untV l t), .int .i64 (untC l t)]) ∧ Below w.heap.size w w' := by
  have hl := ha.len
  subst hl
  have HA := Lib.hid ha
  have HSZ := Lib.hid hsz
  have htm : t.size ≤ maxLen := by unfold maxLen; omega
  clear ha hsz
  rcases unt_cases l t with ⟨g1, e1, e2⟩ | ⟨g1, g2, e1, e2⟩ | ⟨g1, g2, e1, e2⟩ <;> rw [e1, e2] <;> clear e1 e2
  · have G1 := Lib.hid g1
    clear g1
    go_enter Try.func19, Try.ntmps19
    go_wp2_with (go_at_call 33; refine (c_iValidLessons _ _ _ l _ G1.out _ HA.out HSZ.out hn).mono ?_; rintro r_ w1 ⟨rfl, hb1⟩)
    go_returns
    exact ⟨rfl, hb1⟩
  · have G1 := Lib.hid g1
    have C2 := Lib.hid (fun W => c_isText t 32 100 _ g2 W htm)
    clear g1 g2
    go_enter Try.func19, Try.ntmps19
    go_wp2_with (first | (go_at_call 33; refine (c_iValidLessons _ _ _ l _ G1.out _ HA.out HSZ.out hn).mono ?_; rintro r_ w1 ⟨rfl, hb1⟩) | (go_at_call 41; refine (C2.out _).mono ?_; rintro e w' ⟨rfl, rfl⟩))
    go_returns
    exact ⟨rfl, hb1⟩
  · have h12 := les_len g1
    have G1 := Lib.hid g1
    have C2 := Lib.hid (fun W => c_isText t 32 100 _ g2 W htm)
    have hpw := pow_bd (n := l.length) (by omega)
    have hsh := shl_one (n := l.length) (by omega)
    have hp1 : 0 < 2 ^ l.length := Nat.pow_pos (by omega)
    obtain ⟨K, hK⟩ : ∃ K, 2 ^ l.length = K := ⟨_, rfl⟩
    rw [hK] at hsh hpw hp1
    have hk1 : ((K - 1 : Nat) : Int) = (K : Int) - 1 := by omega
    have CC := Lib.hid (fun W => c_chosen (K - 1) l.length W (by omega) (by omega))
    rw [hk1, chs_all hK (Nat.le_refl _)] at CC
    obtain ⟨Z, nZ, zZ, rZ, sZ, tZ⟩ := zeroBex
    have RZ := Lib.hid rZ
    have hKI : (1 : Int) ≤ (K : Int) := by omega
    have hKI2 : (K : Int) ≤ 1048576 := by omega
    clear g1 g2 hK hk1 rZ
    go_enter Try.func19, Try.ntmps19
    go_wp2_with (first | (go_at_call 33; refine (c_iValidLessons _ _ _ l _ G1.out _ HA.out HSZ.out hn).mono ?_; rintro r_ w1 ⟨rfl, hb1⟩) | (go_at_call 41; refine (C2.out _).mono ?_; rintro e w' ⟨rfl, rfl⟩) | (go_at_call 44; refine (CC.out _).mono ?_; intro r_ w2 h2; obtain ⟨B2, d2, rfl, ow2, hb2⟩ := h2.elim (n := l.length) (allZ_len _); have hB2 := hb1.trans (hb2.mono hb1.size); have OW2 := Lib.hid ow2; clear ow2 h2 hb2) | (go_at_call 43; refine (c_known _ _ _ _ _ _ l (allZ l.length) _ (HA.out.later hB2) (zs_ownN OW2.out) (allZ_rises _) HSZ.out hn hn).mono ?_; rintro r_ w3 ⟨rfl, hR3, hb3⟩; have hB3 := hB2.trans (hb3.mono hB2.size); have hg3 := hR3.lt; have HR3 := Lib.hid hR3; clear hR3 hb3))
    clear zZ sZ tZ
    go_loopw [29] (fun i wr => ∃ k : Nat, k ≤ t.size ∧ i = .int .i64 k ∧ Below w3.heap.size w3 wr ∧ Hid (wr.rowIs w3.heap.size 63 256 (mk (misK (knL l (allZ l.length)) ((bl t).take k))))) (fun i _ => t.size - (intOf i).toNat)
    case atStart => exact ⟨0, Nat.zero_le _, rfl, by (repeat' (first | (with_reducible exact Below.refl _ _) | (with_reducible assumption) | (with_reducible refine below_drewN ?_ _) | (with_reducible refine Below.drew ?_) | (with_reducible refine Below.alloc ?_ ?_ _) | (with_reducible refine Below.setCell ?_ ?_ _) | go_size)), RZ.out w3⟩
    case round =>
      obtain ⟨k, hk, rfl, hB, hrow⟩ := hrel
      have hz := hB.size
      have hgl := hrow.out.lt
      have hg3' : w2.heap.size < wr.heap.size := by omega
      by_cases hlt : k < t.size
      · have hI : (k : Int) < t.size := by omega
        have hI0 : (0 : Int) ≤ (k : Int) := by omega
        have HTK := Lib.hid (take_bl hlt)
        have hc256 := u8_lt t[k]
        have hc0 : (0 : Int) ≤ (t[k].toNat : Int) := by omega
        have hcI : (t[k].toNat : Int) < 256 := by omega
        have r0 := (HR3.out.of_block (hB.block _ hg3)).cell hc256
        rw [mk_byte] at r0
        by_cases e : t[k] = 32
        · have e1 : ((t[k].toNat : Int) != 32) = false := by rw [e]; rfl
          have E := Lib.hid (okC_blank (K := knL l (allZ l.length)) e)
          clear e
          go_wp2_with fail
          go_quiet (fail)
          go_wp2_with fail
          go_roundw
          case rel => exact ⟨k + 1, by omega, by go_num, by (repeat' (first | (with_reducible exact Below.refl _ _) | (with_reducible assumption) | (with_reducible refine below_drewN ?_ _) | (with_reducible refine Below.drew ?_) | (with_reducible refine Below.alloc ?_ ?_ _) | (with_reducible refine Below.setCell ?_ ?_ _) | go_size)), by show World.rowIs _ _ _ _ _; rw [HTK.out, misK_yes E.out]; exact hrow.out.of_block ((below_drewN (Below.refl _ _) _).block _ hgl)⟩
          case measure => simp [intOf]; omega
        · have e1 : ((t[k].toNat : Int) != 32) = true := by
            rw [bne_iff_ne]
            exact fun h => e (UInt8.toNat_inj.1 (by have : (32 : UInt8).toNat = 32 := rfl; omega))
          by_cases h2 : t[k] ∈ knL l (allZ l.length)
          · have E := Lib.hid (okC_in h2)
            rw [decide_eq_true h2] at r0
            clear e h2
            go_wp2_with fail
            go_quiet (fail)
            go_wp2_with fail
            go_roundw
            case rel => exact ⟨k + 1, by omega, by go_num, by (repeat' (first | (with_reducible exact Below.refl _ _) | (with_reducible assumption) | (with_reducible refine below_drewN ?_ _) | (with_reducible refine Below.drew ?_) | (with_reducible refine Below.alloc ?_ ?_ _) | (with_reducible refine Below.setCell ?_ ?_ _) | go_size)), by show World.rowIs _ _ _ _ _; rw [HTK.out, misK_yes E.out]; exact hrow.out.of_block ((below_drewN (Below.refl _ _) _).block _ hgl)⟩
            case measure => simp [intOf]; omega
          · have E := Lib.hid (okC_no e h2)
            rw [decide_eq_false h2] at r0
            obtain ⟨u5, r5⟩ : ∃ u, wr.cell? ⟨w3.heap.size, t[k].toNat, none⟩ = some u := ⟨_, hrow.out.cell hc256⟩
            have f5 := hrow.out.frozen t[k].toNat
            clear e h2
            go_wp2_with fail
            go_quiet (fail)
            go_wp2_with fail
            go_roundw
            case rel => exact ⟨k + 1, by omega, by go_num, by (repeat' (first | (with_reducible exact Below.refl _ _) | (with_reducible assumption) | (with_reducible refine below_drewN ?_ _) | (with_reducible refine Below.drew ?_) | (with_reducible refine Below.alloc ?_ ?_ _) | (with_reducible refine Below.setCell ?_ ?_ _) | go_size)), by show World.rowIs _ _ _ _ _; rw [HTK.out, misK_no E.out]; exact (mk_set hrow.out).of_block ((below_drewN (Below.refl _ _) _).block _ (mk_set (c := t[k]) hrow.out).lt)⟩
            case measure => simp [intOf]; omega
      · obtain rfl : k = t.size := by omega
        have HRW : Hid (wr.rowIs w3.heap.size 63 256 (mk (misK (knL l (allZ l.length)) (bl t)))) := by have := hrow.out; rwa [take_bl_all] at this
        have hBw := hB3.trans (hB.mono hB3.size)
        clear hrow
        go_wp2_with (go_at_call 45; refine (c_ascending _ _ _ HRW.out).mono ?_; rintro r_ w9 ⟨rfl, hb9⟩)
        go_returns
        exact ⟨rfl, hBw.trans (hb9.mono hBw.size)⟩
end Go.Proofs.Ytajcdaclbammaaa
