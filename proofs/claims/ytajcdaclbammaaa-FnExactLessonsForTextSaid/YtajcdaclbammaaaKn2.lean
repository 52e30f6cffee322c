/- Contracts: CanType. -/
import Derived.Test.YtajcdaclbammaaaKn
namespace Go.Proofs.Ytajcdaclbammaaa
open Go.RowKit Go.BigFrame
attribute [local go_sem] sub_cell sub_frozen drewN_setCell

/-- The bytes of L that are no blank and not in K. -/
def okC (K : List UInt8) (c : UInt8) : Bool := c == 32 || decide (c ∈ K)
def misK (K L : List UInt8) : List UInt8 := L.filter fun c => !okC K c
theorem misK_yes {K L : List UInt8} {c : UInt8} (h : okC K c = true) : misK K (L ++ [c]) = misK K L := by simp [misK, h]
theorem misK_no {K L : List UInt8} {c : UInt8} (h : okC K c = false) : misK K (L ++ [c]) = misK K L ++ [c] := by simp [misK, h]
theorem okC_srt (S : List UInt8) (c : UInt8) : okC (srt (memB S)) c = okC S c := by
  unfold okC
  congr 1
  rw [Bool.eq_iff_iff, decide_eq_true_eq, decide_eq_true_eq, srt_mem, memB, decide_eq_true_eq]
theorem misK_srt (S L : List UInt8) : misK (srt (memB S)) L = misK S L := by
  unfold misK
  congr 1
  funext c
  rw [okC_srt]
def typB (K L : List UInt8) : Bool := L.all (okC K)
theorem typB_iff {K L : List UInt8} : misK K L = [] ↔ typB K L = true := by
  unfold misK typB
  rw [List.filter_eq_nil_iff, List.all_eq_true]
  simp
theorem srt_nil {M : List UInt8} : srt (memB M) = [] ↔ M = [] := by
  constructor
  · intro h
    cases M with
    | nil => rfl
    | cons a M =>
      have : a ∈ srt (memB (a :: M)) := srt_mem.2 (by simp [memB])
      rw [h] at this; cases this
  · rintro rfl
    cases h : srt (memB []) with
    | nil => rfl
    | cons a L =>
      have : a ∈ srt (memB []) := by rw [h]; simp
      rw [srt_mem] at this
      simp [memB] at this
theorem okC_blank {K : List UInt8} {c : UInt8} (h : c = 32) : okC K c = true := by simp [okC, h]
theorem okC_in {K : List UInt8} {c : UInt8} (h : c ∈ K) : okC K c = true := by simp [okC, h]
theorem okC_no {K : List UInt8} {c : UInt8} (h : c ≠ 32) (h' : c ∉ K) : okC K c = false := by simp [okC, h, h']
set_option maxRecDepth 20000 in
set_option maxHeartbeats 4000000 in
theorem c_l18Missing (s t : ByteArray) (w : World) (hs : s.size ≤ 1048576) (ht : t.size ≤ 1048576) :
    Calls Try.prog 38 #[.string s, .string t] w fun e w' => e = .returned (.string (sb (srt (memB (misK (bl s) (bl t)))))) ∧ Below w.heap.size w w' := by
  go_enter Try.func38, Try.ntmps38
  go_wp2_with fail
  go_loopw [5, 6] (fun v i wr => ∃ k : Nat, k ≤ t.size ∧ i = .int .i64 k ∧ v = .string (sb (srt (memB (misK (bl s) ((bl t).take k))))) ∧ Below w.heap.size w wr) (fun _ i _ => t.size - (intOf i).toNat)
  case atStart => exact ⟨0, Nat.zero_le _, rfl, rfl, Below.refl _ _⟩
  case round =>
    obtain ⟨k, hk, rfl, rfl, hB⟩ := hrel
    by_cases hlt : k < t.size
    · have hI : (k : Int) < t.size := by omega
      have hI0 : (0 : Int) ≤ (k : Int) := by omega
      have hI1 : (k : Int) + 1 ≤ t.size := by omega
      have HTK := Lib.hid (take_bl hlt)
      have HT := Lib.hid (bl_one hlt)
      obtain ⟨f, hf⟩ : ∃ f, (t[k] == 32) = f := ⟨_, rfl⟩
      have hf2 : ((t[k].toNat : Int) == 32) = f := by rw [← hf]; exact u8_lit (c := 32) rfl
      have HF := Lib.hid hf
      clear hf
      go_wp2_with fail
      go_loopw [7, 8] (fun v i wr => ∃ (q : Nat) (g : Bool), q ≤ s.size ∧ i = .int .i64 q ∧ v = .bool g ∧ Below w.heap.size w wr ∧ Hid (g = (f || decide (t[k] ∈ (bl s).take q)))) (fun _ i _ => s.size - (intOf i).toNat)
      case atStart => exact ⟨0, f, Nat.zero_le _, rfl, rfl, hB, Lib.hid (by simp)⟩
      case round =>
        clear hB
        obtain ⟨q, g, hq, rfl, rfl, hB, hg⟩ := hrel
        by_cases hlt3 : q < s.size
        · have hqI : (q : Int) < s.size := by omega
          have hq0 : (0 : Int) ≤ (q : Int) := by omega
          have HTS := Lib.hid (take_bl hlt3)
          cases g
          · by_cases e : s[q] = t[k]
            · have e1 : ((s[q].toNat : Int) == (t[k].toNat : Int)) = true := by rw [e]; exact beq_self_eq_true _
              have E := Lib.hid e
              clear e
              go_wp2_with fail
              go_quiet (fail)
              go_wp2_with fail
              go_roundw
              case rel => exact ⟨q + 1, true, by omega, by go_num, rfl, by (repeat' (first | (with_reducible exact Below.refl _ _) | (with_reducible assumption) | (with_reducible refine below_drewN ?_ _) | (with_reducible refine Below.drew ?_) | (with_reducible refine Below.alloc ?_ ?_ _) | (with_reducible refine Below.setCell ?_ ?_ _) | go_size)), by show true = _; rw [HTS.out, E.out]; simp⟩
              case measure => simp [intOf]; omega
            · have e1 : ((s[q].toNat : Int) == (t[k].toNat : Int)) = false := by rw [beq_eq_false_iff_ne]; exact fun h => e (u8int.1 h)
              have E := Lib.hid e
              clear e
              go_wp2_with fail
              go_quiet (fail)
              go_wp2_with fail
              go_roundw
              case rel => exact ⟨q + 1, false, by omega, by go_num, rfl, by (repeat' (first | (with_reducible exact Below.refl _ _) | (with_reducible assumption) | (with_reducible refine below_drewN ?_ _) | (with_reducible refine Below.drew ?_) | (with_reducible refine Below.alloc ?_ ?_ _) | (with_reducible refine Below.setCell ?_ ?_ _) | go_size)), by
                show false = _
                have h1 := hg.out
                rw [HTS.out, h1]
                have : ¬ t[k] = s[q] := fun h => E.out h.symm
                simp [this]⟩
              case measure => simp [intOf]; omega
          · go_wp2_with fail
            go_quiet (fail)
            go_wp2_with fail
            go_roundw
            case rel => exact ⟨q + 1, true, by omega, by go_num, rfl, by (repeat' (first | (with_reducible exact Below.refl _ _) | (with_reducible assumption) | (with_reducible refine below_drewN ?_ _) | (with_reducible refine Below.drew ?_) | (with_reducible refine Below.alloc ?_ ?_ _) | (with_reducible refine Below.setCell ?_ ?_ _) | go_size)), by
              show true = _
              have h1 := hg.out
              rw [HTS.out]
              symm at h1 ⊢
              simp only [Bool.or_eq_true, decide_eq_true_eq, List.mem_append] at h1 ⊢
              exact h1.elim .inl (fun h => .inr (.inl h))⟩
            case measure => simp [intOf]; omega
        · obtain rfl : q = s.size := by omega
          have hg2 : okC (bl s) t[k] = g := by
            have h1 := hg.out
            rw [take_bl_all] at h1
            rw [h1, ← HF.out]; rfl
          have HG := Lib.hid hg2
          clear hg hg2
          cases g
          · obtain ⟨T, hT⟩ : ∃ T, misK (bl s) ((bl t).take k) = T := ⟨_, rfl⟩
            rw [hT]
            have HTT := Lib.hid hT
            clear hT
            go_wp2_with (go_at_call 65; refine (c_l02PutLetter _ _ _ T (bl_sb _) HT.out _).mono ?_; rintro e w' ⟨rfl, nd, rfl⟩)
            go_roundw
            case rel => exact ⟨k + 1, by omega, by go_num, by rw [HTK.out, misK_no HG.out, HTT.out], by (repeat' (first | (with_reducible exact Below.refl _ _) | (with_reducible assumption) | (with_reducible refine below_drewN ?_ _) | (with_reducible refine Below.drew ?_) | (with_reducible refine Below.alloc ?_ ?_ _) | (with_reducible refine Below.setCell ?_ ?_ _) | go_size))⟩
            case measure => simp [intOf]; omega
          · go_wp2_with fail
            go_roundw
            case rel => exact ⟨k + 1, by omega, by go_num, by rw [HTK.out, misK_yes HG.out], hB⟩
            case measure => simp [intOf]; omega
    · obtain rfl : k = t.size := by omega
      go_wp2_with fail
      go_ret
      exact ⟨by rw [take_bl_all]; rfl, hB⟩
theorem typ_bad {K : List UInt8} {t : ByteArray} {k : Nat} (hk : k < t.size) (h : okC K t[k] = false) : typB K (bl t) = false := by
  rw [typB, List.all_eq_false]
  exact ⟨t[k], List.mem_of_getElem? (bl_get t k hk), by simp [h]⟩
theorem typ_end {K : List UInt8} {t : ByteArray} (h : ((bl t).take t.size).all (okC K) = true) : typB K (bl t) = true := by rwa [take_bl_all] at h
set_option maxRecDepth 20000 in
set_option maxHeartbeats 4000000 in
theorem c_typable (t : ByteArray) (g : Nat) (S : List UInt8) (r : Bool) (hr : typB S (bl t) = r) (w : World) (h : w.rowIs g 63 256 (mk S)) (ht : t.size ≤ 1048576) :
    Calls Try.prog 42 #[.string t, .pointer (some ⟨g, 0, none⟩)] w fun e w' => e = .returned (.bool r) ∧ Draws w w' := by
  subst hr
  have HR := Lib.hid h
  have hg := h.lt
  clear h
  go_enter Try.func42, Try.ntmps42
  go_wp2_with fail
  go_loopw [8] (fun i wr => ∃ k nd : Nat, k ≤ t.size ∧ i = .int .i64 k ∧ wr = w.drewN nd ∧ Hid (((bl t).take k).all (okC S) = true)) (fun i _ => t.size - (intOf i).toNat)
  case atStart => exact ⟨0, 0, Nat.zero_le _, rfl, rfl, rfl⟩
  case round =>
    obtain ⟨k, nd, hk, rfl, rfl, hal⟩ := hrel
    by_cases hlt : k < t.size
    · have hI : (k : Int) < t.size := by omega
      have hI0 : (0 : Int) ≤ (k : Int) := by omega
      have HB := Lib.hid (bl_get t k hlt)
      have hc256 := u8_lt t[k]
      have hc0 : (0 : Int) ≤ (t[k].toNat : Int) := by omega
      have hcI : (t[k].toNat : Int) < 256 := by omega
      have r0 := HR.out.cell hc256
      rw [mk_byte] at r0
      by_cases e : t[k] = 32
      · have e1 : ((t[k].toNat : Int) != 32) = false := by rw [e]; rfl
        have E := Lib.hid (okC_blank (K := S) e)
        clear e
        go_wp2_with fail
        go_quiet (fail)
        go_wp2_with fail
        go_roundw
        case rel => exact ⟨k + 1, _, by omega, by go_num, rfl, all_bytes HB.out hal.out E.out⟩
        case measure => simp [intOf]; omega
      · have e1 : ((t[k].toNat : Int) != 32) = true := by
          rw [bne_iff_ne]
          exact fun h => e (UInt8.toNat_inj.1 (by have : (32 : UInt8).toNat = 32 := rfl; omega))
        by_cases h2 : t[k] ∈ S
        · have E := Lib.hid (okC_in h2)
          rw [decide_eq_true h2] at r0
          clear e h2
          go_wp2_with fail
          go_quiet (fail)
          go_wp2_with fail
          go_roundw
          case rel => exact ⟨k + 1, _, by omega, by go_num, rfl, all_bytes HB.out hal.out E.out⟩
          case measure => simp [intOf]; omega
        · have E := Lib.hid (okC_no e h2)
          rw [decide_eq_false h2] at r0
          clear e h2
          go_wp2_with fail
          go_quiet (fail)
          go_wp2_with fail
          go_ret
          exact ⟨by rw [typ_bad hlt E.out]; rfl, ⟨_, by simp only [World.drewN_drewN]; rfl⟩⟩
    · obtain rfl : k = t.size := by omega
      go_wp2_with fail
      go_ret
      exact ⟨by rw [typ_end hal.out]; rfl, draws_N _ _⟩
def canC (l : List TLesson) (z : List Int) (t : ByteArray) : Int := if takB l z = 0 then (if textB 32 100 (bl t) = true then 0 else 2) else takB l z
def canV (l : List TLesson) (z : List Int) (t : ByteArray) : Bool := if canC l z t = 0 then typB (knL l z) (bl t) else false
theorem can_cases (l : List TLesson) (z : List Int) (t : ByteArray) : ((takB l z = 1 ∨ takB l z = 2) ∧ canC l z t = takB l z ∧ canV l z t = false) ∨ (takB l z = 0 ∧ textB 32 100 (bl t) = false ∧ canC l z t = 2 ∧ canV l z t = false) ∨ (takB l z = 0 ∧ textB 32 100 (bl t) = true ∧ canC l z t = 0 ∧ canV l z t = typB (knL l z) (bl t)) := by
  rcases takB_cases l z with ⟨_, e⟩ | ⟨_, _, e⟩ | ⟨_, _, e⟩
  · left; simp [canC, canV, e]
  · left; simp [canC, canV, e]
  · right
    cases g : textB 32 100 (bl t) <;> simp [canC, canV, e, g]
theorem takB_zero {l : List TLesson} {z : List Int} (h : takB l z = 0) : lesB l = true ∧ risesZ 0 ((l.length : Int) - 1) z = true := by
  rcases takB_cases l z with ⟨_, e⟩ | ⟨_, _, e⟩ | ⟨h1, h2, e⟩
  · omega
  · omega
  · exact ⟨h1, h2⟩
theorem text_size {t : ByteArray} (h : textB 32 100 (bl t) = true) : t.size ≤ 100 := by
  simp only [textB, Bool.and_eq_true, decide_eq_true_eq, bl_len] at h
  omega
theorem srt_size (S : List UInt8) : (sb (srt (memB S))).size ≤ 1048576 := by
  rw [sb_size]; have := srt_len (memB S); omega
set_option maxHeartbeats 4000000 in
theorem c_sCanType (A B : Option Addr) (n c m d : Nat) (l : List TLesson) (z : List Int) (t : ByteArray) (w : World) (ha : Ls w A n l) (hz : Zs w B m z) (hsz : LsB l) (hn : n ≤ 1048576) (hm : m ≤ 1048576) (ht : t.size ≤ 1048576) :
    Calls Try.prog 14 #[.slice A n c, .slice B m d, .string t] w fun e w' => e = .returned (.tuple #[.bool (canV l z t), .int .i64 (canC l z t)]) ∧ Below w.heap.size w w' := by
  have hl := ha.len
  subst hl
  have HA := Lib.hid ha
  have HZ := Lib.hid hz
  have HSZ := Lib.hid hsz
  have htm : t.size ≤ maxLen := by unfold maxLen; omega
  clear ha hz hsz
  rcases can_cases l z t with ⟨g1, e1, e2⟩ | ⟨g1, g2, e1, e2⟩ | ⟨g1, g2, e1, e2⟩ <;> rw [e1, e2] <;> clear e1 e2
  · rcases g1 with g1 | g1 <;> rw [g1] <;> have G1 := Lib.hid g1 <;> clear g1
    all_goals
      go_enter Try.func14, Try.ntmps14
      go_wp2_with (go_at_call 36; refine (c_l18Taken _ _ _ _ _ _ l z _ G1.out _ HA.out HZ.out HSZ.out hn hm).mono ?_; rintro r_ w1 ⟨rfl, hb1⟩)
      go_returns
      exact ⟨rfl, hb1⟩
  · have G1 := Lib.hid g1
    have G2 := Lib.hid g2
    clear g1 g2
    go_enter Try.func14, Try.ntmps14
    go_wp2_with (first | (go_at_call 36; refine (c_l18Taken _ _ _ _ _ _ l z _ G1.out _ HA.out HZ.out HSZ.out hn hm).mono ?_; rintro r_ w1 ⟨rfl, hb1⟩) | (go_at_call 37; refine (c_l00Text _ _ _ G2.out _ htm).mono ?_; rintro e w' ⟨rfl, rfl⟩))
    go_returns
    exact ⟨rfl, hb1⟩
  · have GR := Lib.hid (takB_zero g1).2
    have G1 := Lib.hid g1
    have G2 := Lib.hid g2
    obtain ⟨X, hX⟩ : ∃ X, srt (memB (misK (srt (memB (knL l z))) (bl t))) = X := ⟨_, rfl⟩
    obtain ⟨r, hr⟩ : ∃ r, typB (knL l z) (bl t) = r := ⟨_, rfl⟩
    have hq : (X == ([] : List UInt8)) = r := by
      rw [← hX, misK_srt, ← hr, Bool.eq_iff_iff, beq_iff_eq, srt_nil, typB_iff]
    have hq2 : ((sb X).toList == (ByteArray.mk #[]).toList) = r := by rw [sb_toList, mt_toList]; exact hq
    have hq3 : ((sb X).toList == ([] : List UInt8)) = r := by rw [sb_toList]; exact hq
    have HX := Lib.hid hX
    rw [hr]
    have CM := Lib.hid (fun W => c_l18Missing (sb (srt (memB (knL l z)))) t W (srt_size _) ht)
    rw [bl_sb, hX] at CM
    clear g1 g2 hX hr
    go_enter Try.func14, Try.ntmps14
    go_wp2_with (first | (go_at_call 36; refine (c_l18Taken _ _ _ _ _ _ l z _ G1.out _ HA.out HZ.out HSZ.out hn hm).mono ?_; rintro r_ w1 ⟨rfl, hb1⟩) | (go_at_call 37; refine (c_l00Text _ _ _ G2.out _ htm).mono ?_; rintro e w' ⟨rfl, rfl⟩) | (go_at_call 39; refine (c_l18Known _ _ _ _ _ _ l z _ (HA.out.later hb1) (HZ.out.later hb1) GR.out HSZ.out hn hm).mono ?_; rintro r_ w2 ⟨rfl, hb2⟩; have hB2 := hb1.trans (hb2.mono hb1.size)) | (go_at_call 38; refine (CM.out _).mono ?_; rintro r_ w3 ⟨rfl, hb3⟩; have hB3 := hB2.trans (hb3.mono hB2.size)))
    go_returns
    exact ⟨rfl, hB3⟩
set_option maxHeartbeats 4000000 in
theorem c_iCanType (A B : Option Addr) (n c m d : Nat) (l : List TLesson) (z : List Int) (t : ByteArray) (w : World) (ha : Ls w A n l) (hz : Zs w B m z) (hsz : LsB l) (hn : n ≤ 1048576) (hm : m ≤ 1048576) (ht : t.size ≤ 1048576) :
    Calls Try.prog 16 #[.slice A n c, .slice B m d, .string t] w fun e w' => e = .returned (.tuple #[.bool (canV l z t), .int .i64 (canC l z t)]) ∧ Below w.heap.size w w' := by
  have hl := ha.len
  subst hl
  have HA := Lib.hid ha
  have HZ := Lib.hid hz
  have HSZ := Lib.hid hsz
  have htm : t.size ≤ maxLen := by unfold maxLen; omega
  clear ha hz hsz
  rcases can_cases l z t with ⟨g1, e1, e2⟩ | ⟨g1, g2, e1, e2⟩ | ⟨g1, g2, e1, e2⟩ <;> rw [e1, e2] <;> clear e1 e2
  · rcases g1 with g1 | g1 <;> rw [g1] <;> have G1 := Lib.hid g1 <;> clear g1
    all_goals
      go_enter Try.func16, Try.ntmps16
      go_wp2_with (go_at_call 40; refine (c_takenCode _ _ _ _ _ _ l z _ G1.out _ HA.out HZ.out HSZ.out hn hm).mono ?_; rintro r_ w1 ⟨rfl, hb1⟩)
      go_returns
      exact ⟨rfl, hb1⟩
  · have G1 := Lib.hid g1
    have C2 := Lib.hid (fun W => c_isText t 32 100 _ g2 W htm)
    clear g1 g2
    go_enter Try.func16, Try.ntmps16
    go_wp2_with (first | (go_at_call 40; refine (c_takenCode _ _ _ _ _ _ l z _ G1.out _ HA.out HZ.out HSZ.out hn hm).mono ?_; rintro r_ w1 ⟨rfl, hb1⟩) | (go_at_call 41; refine (C2.out _).mono ?_; rintro e w' ⟨rfl, rfl⟩))
    go_returns
    exact ⟨rfl, hb1⟩
  · have GR := Lib.hid (takB_zero g1).2
    have G1 := Lib.hid g1
    have C2 := Lib.hid (fun W => c_isText t 32 100 _ g2 W htm)
    obtain ⟨r, hr⟩ : ∃ r, typB (knL l z) (bl t) = r := ⟨_, rfl⟩
    have H3 := Lib.hid hr
    rw [hr]
    clear g1 g2 hr
    go_enter Try.func16, Try.ntmps16
    go_wp2_with (first | (go_at_call 40; refine (c_takenCode _ _ _ _ _ _ l z _ G1.out _ HA.out HZ.out HSZ.out hn hm).mono ?_; rintro r_ w1 ⟨rfl, hb1⟩) | (go_at_call 41; refine (C2.out _).mono ?_; rintro e w' ⟨rfl, rfl⟩) | (go_at_call 43; refine (c_known _ _ _ _ _ _ l z _ (HA.out.later hb1) (HZ.out.later hb1) GR.out HSZ.out hn hm).mono ?_; rintro r_ w2 ⟨rfl, hR2, hb2⟩; have hB2 := hb1.trans (hb2.mono hb1.size); have HR2 := Lib.hid hR2; clear hR2) | (go_at_call 42; refine (c_typable _ _ _ _ H3.out _ HR2.out ht).mono ?_; rintro r_ w3 ⟨rfl, nd, rfl⟩))
    go_returns
    exact ⟨rfl, by (repeat' (first | (with_reducible exact Below.refl _ _) | (with_reducible assumption) | (with_reducible refine below_drewN ?_ _) | (with_reducible refine Below.drew ?_) | (with_reducible refine Below.alloc ?_ ?_ _) | (with_reducible refine Below.setCell ?_ ?_ _) | go_size))⟩
end Go.Proofs.Ytajcdaclbammaaa
