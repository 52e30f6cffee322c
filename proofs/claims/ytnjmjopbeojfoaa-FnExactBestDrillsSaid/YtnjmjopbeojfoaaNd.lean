/- Contracts: needs of letters, with counts. -/
import Derived.Test.YtnjmjopbeojfoaaIx
import Derived.Test.YtnjmjopbeojfoaaSb
import Derived.Test.YtnjmjopbeojfoaaBt
import Derived.Test.YtnjmjopbeojfoaaI64
namespace Go.Proofs.Ytnjmjopbeojfoaa
open Go.RowKit Go.BigFrame
attribute [local go_sem] sub_cell sub_frozen drewN_setCell

/-- The bytes i and i + 1 of a text rise. -/
def riseAt (l : List UInt8) (i : Nat) : Bool := match l[i]?, l[i + 1]? with | some a, some b => decide ((a.toNat : Int) < b.toNat) | _, _ => false
def risesL (l : List UInt8) : Bool := allN (riseAt l) (l.length - 1)
theorem riseAt_eq {l : List UInt8} {i : Nat} {a b : UInt8} (ha : l[i]? = some a) (hb : l[i + 1]? = some b) : riseAt l i = decide ((a.toNat : Int) < b.toNat) := by simp [riseAt, ha, hb]
theorem rises_bad {l : List UInt8} {i : Nat} {a b : UInt8} (ha : l[i]? = some a) (hb : l[i + 1]? = some b) (h : ¬ (a.toNat : Int) < b.toNat) : risesL l = false := by
  have h1 := (List.getElem?_eq_some_iff.1 hb).1
  exact allN_bad (k := i) (by omega) (by rw [riseAt_eq ha hb, decide_eq_false h])
/-- Letters of needs. -/
def needL (l : List UInt8) : Bool := risesL l && textB 33 30 l
def needB (l : List UInt8) (z : List Int) : Bool := z.all (betw · 0 1000) && (needL l && decide (z.length = l.length))
theorem need_bad {l : List UInt8} {z : List Int} {k : Nat} {x : Int} (h : z[k]? = some x) (hx : betw x 0 1000 = false) : needB l z = false := by
  simp only [needB, Bool.and_eq_false_iff]
  left
  rw [List.all_eq_false]
  exact ⟨x, List.mem_of_getElem? h, by simp [hx]⟩
theorem take_allZ {p : Int → Bool} {l : List Int} {k : Nat} {x : Int} (hx : l[k]? = some x) (h : (l.take k).all p = true) (hv : p x = true) : (l.take (k + 1)).all p = true := by
  rw [List.take_add_one, hx, List.all_append, h]
  simpa using hv
theorem need_end {l : List UInt8} {z : List Int} {n : Nat} (hn : z.length = n) (h : (z.take n).all (betw · 0 1000) = true) : needB l z = (needL l && decide (n = l.length)) := by
  subst hn
  rw [List.take_of_length_le (Nat.le_refl _)] at h
  simp only [needB, h, Bool.true_and]

set_option maxHeartbeats 1000000 in
theorem c_l21Letters (s : ByteArray) (r : Bool) (h : needL (bl s) = r) (w : World) (hs : s.size ≤ maxLen) :
    Calls Try.prog 57 #[.string s] w fun e w' => e = .returned (.bool r) ∧ Draws w w' := by
  subst h
  have HS := Lib.hid hs
  unfold maxLen at hs
  go_enter Try.func57, Try.ntmps57
  go_wp2_with fail
  go_loopw [3] (fun i wr => ∃ k nd : Nat, k ≤ s.size ∧ i = .int .i64 ((k : Int) + 1) ∧ wr = w.drewN nd ∧ Hid (allN (riseAt (bl s)) k = true)) (fun i _ => s.size + 1 - (intOf i).toNat)
  case atStart => exact ⟨0, 0, Nat.zero_le _, rfl, rfl, rfl⟩
  case round =>
    obtain ⟨k, nd, hk, rfl, rfl, hn⟩ := hrel
    by_cases hlt : k + 1 < s.size
    · have hlt2 : k < s.size := by omega
      have hlt3 : (k : Int) + 1 < s.size := by omega
      have hlt4 : (k : Int) < s.size := by omega
      have hlt5 : (0 : Int) ≤ (k : Int) := by omega
      have hlt6 : (0 : Int) ≤ (k : Int) + 1 := by omega
      have ha := Lib.hid (bl_get s k hlt2)
      have hb := Lib.hid (bl_get s (k + 1) hlt)
      by_cases h1 : (s[k].toNat : Int) < s[k + 1].toNat
      · have h2 : ¬ (s[k + 1].toNat : Int) ≤ s[k].toNat := by omega
        go_wp2_with fail
        go_quiet (fail)
        go_wp2_with fail
        go_roundw
        case rel => exact ⟨k + 1, _, by omega, by go_num, rfl, allN_succ hn.out (by rw [riseAt_eq ha.out hb.out, decide_eq_true h1])⟩
        case measure => simp [intOf]; omega
      · have h2 : (s[k + 1].toNat : Int) ≤ s[k].toNat := by omega
        go_wp2_with fail
        go_quiet (fail)
        go_wp2_with fail
        go_ret
        exact ⟨by rw [needL, rises_bad ha.out hb.out (by omega)]; rfl, ⟨_, by simp only [World.drewN_drewN]; rfl⟩⟩
    · have hlt3 : ¬ (k : Int) + 1 < s.size := by omega
      have HR : Hid (risesL (bl s) = true) := by
        show allN (riseAt (bl s)) _ = true
        rw [bl_len]
        by_cases e : k = s.size
        · subst e
          rw [allN, List.all_eq_true]
          intro x hx
          exact allN_at hn.out (by simp at hx; omega)
        · rw [show s.size - 1 = k by omega]; exact hn.out
      obtain ⟨r, hr⟩ : ∃ r, textB 33 30 (bl s) = r := ⟨_, rfl⟩
      have H2 := Lib.hid hr
      clear hr
      go_wp2_with (go_at_call 69; refine (c_l17Text _ _ _ H2.out _ HS.out).mono ?_; rintro e w' ⟨rfl, rfl⟩)
      go_ret
      exact ⟨by rw [needL, HR.out, H2.out]; rfl, ⟨_, rfl⟩⟩
set_option maxHeartbeats 1000000 in
theorem c_areNeeded (s : ByteArray) (r : Bool) (h : needL (bl s) = r) (w : World) (hs : s.size ≤ maxLen) :
    Calls Try.prog 43 #[.string s] w fun e w' => e = .returned (.bool r) ∧ Draws w w' := by
  subst h
  have HS := Lib.hid hs
  unfold maxLen at hs
  go_enter Try.func43, Try.ntmps43
  go_wp2_with fail
  go_loopw [3] (fun i wr => ∃ k nd : Nat, k ≤ s.size ∧ i = .int .i64 ((k : Int) + 1) ∧ wr = w.drewN nd ∧ Hid (allN (riseAt (bl s)) k = true)) (fun i _ => s.size + 1 - (intOf i).toNat)
  case atStart => exact ⟨0, 0, Nat.zero_le _, rfl, rfl, rfl⟩
  case round =>
    obtain ⟨k, nd, hk, rfl, rfl, hn⟩ := hrel
    by_cases hlt : k + 1 < s.size
    · have hlt2 : k < s.size := by omega
      have hlt3 : (k : Int) + 1 < s.size := by omega
      have hlt4 : (k : Int) < s.size := by omega
      have hlt5 : (0 : Int) ≤ (k : Int) := by omega
      have hlt6 : (0 : Int) ≤ (k : Int) + 1 := by omega
      have ha := Lib.hid (bl_get s k hlt2)
      have hb := Lib.hid (bl_get s (k + 1) hlt)
      by_cases h1 : (s[k].toNat : Int) < s[k + 1].toNat
      · have h2 : ¬ (s[k + 1].toNat : Int) ≤ s[k].toNat := by omega
        go_wp2_with fail
        go_quiet (fail)
        go_wp2_with fail
        go_roundw
        case rel => exact ⟨k + 1, _, by omega, by go_num, rfl, allN_succ hn.out (by rw [riseAt_eq ha.out hb.out, decide_eq_true h1])⟩
        case measure => simp [intOf]; omega
      · have h2 : (s[k + 1].toNat : Int) ≤ s[k].toNat := by omega
        go_wp2_with fail
        go_quiet (fail)
        go_wp2_with fail
        go_ret
        exact ⟨by rw [needL, rises_bad ha.out hb.out (by omega)]; rfl, ⟨_, by simp only [World.drewN_drewN]; rfl⟩⟩
    · have hlt3 : ¬ (k : Int) + 1 < s.size := by omega
      have HR : Hid (risesL (bl s) = true) := by
        show allN (riseAt (bl s)) _ = true
        rw [bl_len]
        by_cases e : k = s.size
        · subst e
          rw [allN, List.all_eq_true]
          intro x hx
          exact allN_at hn.out (by simp at hx; omega)
        · rw [show s.size - 1 = k by omega]; exact hn.out
      obtain ⟨r, hr⟩ : ∃ r, textB 33 30 (bl s) = r := ⟨_, rfl⟩
      have H2 := Lib.hid hr
      clear hr
      have C := Lib.hid (fun W => c_isText s 33 30 r H2.out W HS.out)
      go_wp2_with (go_at_call 66; refine (C.out _).mono ?_; rintro e w' ⟨rfl, rfl⟩)
      go_ret
      exact ⟨by rw [needL, HR.out, H2.out]; rfl, ⟨_, rfl⟩⟩
set_option maxHeartbeats 1000000 in
theorem c_l21Needs (s : ByteArray) (B : Option Addr) (n c : Nat) (z : List Int) (r : Bool) (h : needB (bl s) z = r) (w : World) (hb : Zs w B n z) (hs : s.size ≤ maxLen) (hn : n ≤ 1048576) :
    Calls Try.prog 41 #[.string s, .slice B n c] w fun e w' => e = .returned (.bool r) ∧ Draws w w' := by
  subst h
  have HS := Lib.hid hs
  unfold maxLen at hs
  have HZ := Lib.hid hb.1
  go_enter Try.func41, Try.ntmps41
  go_wp2_with fail
  go_loop [5] (fun i => ∃ k : Nat, k ≤ n ∧ i = .int .i64 k ∧ Hid ((z.take k).all (betw · 0 1000) = true)) (fun i => n - (intOf i).toNat)
  case atStart => exact ⟨0, Nat.zero_le _, rfl, rfl⟩
  case round =>
    obtain ⟨k, hk, rfl, hp⟩ := hrel
    by_cases hlt : k < n
    · obtain ⟨b, o, x, rfl, hb1, hb2, hx, c0⟩ := z_at hb (Below.refl _ _) hlt
      have HX := Lib.hid hx
      clear hb hx
      cases g : betw x 0 1000 <;> have G := Lib.hid g <;> clear g
      · go_wp2_with (go_at_call 45; refine (c_l00In _ _ _ _ G.out _).mono ?_; rintro e w' ⟨rfl, rfl⟩)
        go_ret
        exact ⟨by rw [need_bad HX.out G.out]; rfl, draws_refl _⟩
      · go_wp2_with (go_at_call 45; refine (c_l00In _ _ _ _ G.out _).mono ?_; rintro e w' ⟨rfl, rfl⟩)
        go_round
        case rel => exact ⟨k + 1, by omega, by go_num, take_allZ HX.out hp.out G.out⟩
        case measure => simp [intOf]; omega
    · obtain rfl : k = n := by omega
      have HE := Lib.hid (need_end (l := bl s) HZ.out hp.out)
      clear hb
      cases g : needL (bl s) <;> have G := Lib.hid g <;> clear g
      · go_wp2_with (go_at_call 57; refine (c_l21Letters _ _ G.out _ HS.out).mono ?_; rintro e w' ⟨rfl, nd, rfl⟩)
        go_ret
        exact ⟨by rw [HE.out, G.out]; rfl, draws_N _ _⟩
      · by_cases e1 : k = s.size
        · have e2 : ((k : Int) == (s.size : Int)) = true := by simp [e1]
          have E := Lib.hid e1
          clear e1
          go_wp2_with (go_at_call 57; refine (c_l21Letters _ _ G.out _ HS.out).mono ?_; rintro e w' ⟨rfl, nd, rfl⟩)
          go_ret
          exact ⟨by rw [HE.out, G.out, bl_len, decide_eq_true E.out]; rfl, draws_N _ _⟩
        · have e2 : ((k : Int) == (s.size : Int)) = false := by simp; omega
          have E := Lib.hid e1
          clear e1
          go_wp2_with (go_at_call 57; refine (c_l21Letters _ _ G.out _ HS.out).mono ?_; rintro e w' ⟨rfl, nd, rfl⟩)
          go_ret
          exact ⟨by rw [HE.out, G.out, bl_len, decide_eq_false E.out]; rfl, draws_N _ _⟩
set_option maxHeartbeats 400000 in
theorem c_sValidNeeds (s : ByteArray) (B : Option Addr) (n c : Nat) (z : List Int) (r : Bool) (h : needB (bl s) z = r) (w : World) (hb : Zs w B n z) (hs : s.size ≤ maxLen) (hn : n ≤ 1048576) :
    Calls Try.prog 12 #[.string s, .slice B n c] w fun e w' => e = .returned (.bool r) ∧ Draws w w' := by
  have C := Lib.hid (c_l21Needs s B n c z r h w hb hs hn)
  clear h hb hs
  go_enter Try.func12, Try.ntmps12
  go_wp2_with (go_at_call 41; refine C.out.mono ?_; rintro r_ w1 ⟨rfl, nd, rfl⟩)
  go_ret
  exact ⟨rfl, draws_N _ _⟩
set_option maxHeartbeats 1000000 in
theorem c_iValidNeeds (s : ByteArray) (B : Option Addr) (n c : Nat) (z : List Int) (r : Bool) (h : needB (bl s) z = r) (w : World) (hb : Zs w B n z) (hs : s.size ≤ maxLen) (hn : n ≤ 1048576) :
    Calls Try.prog 14 #[.string s, .slice B n c] w fun e w' => e = .returned (.bool r) ∧ Draws w w' := by
  subst h
  have HS := Lib.hid hs
  unfold maxLen at hs
  have HZ := Lib.hid hb.1
  go_enter Try.func14, Try.ntmps14
  go_wp2_with fail
  go_loop [9] (fun i => ∃ k : Nat, k ≤ n ∧ i = .int .i64 k ∧ Hid ((z.take k).all (betw · 0 1000) = true)) (fun i => n - (intOf i).toNat)
  case atStart => exact ⟨0, Nat.zero_le _, rfl, rfl⟩
  case round =>
    obtain ⟨k, hk, rfl, hp⟩ := hrel
    by_cases hlt : k < n
    · obtain ⟨b, o, x, rfl, hb1, hb2, hx, c0⟩ := z_at hb (Below.refl _ _) hlt
      have HX := Lib.hid hx
      clear hb hx
      cases g : betw x 0 1000 <;> have G := Lib.hid g <;> clear g
      · go_wp2_with (go_at_call 42; refine (c_between _ _ _ _ G.out _).mono ?_; rintro e w' ⟨rfl, rfl⟩)
        go_ret
        exact ⟨by rw [need_bad HX.out G.out]; rfl, draws_refl _⟩
      · go_wp2_with (go_at_call 42; refine (c_between _ _ _ _ G.out _).mono ?_; rintro e w' ⟨rfl, rfl⟩)
        go_round
        case rel => exact ⟨k + 1, by omega, by go_num, take_allZ HX.out hp.out G.out⟩
        case measure => simp [intOf]; omega
    · obtain rfl : k = n := by omega
      have HE := Lib.hid (need_end (l := bl s) HZ.out hp.out)
      clear hb
      cases g : needL (bl s) <;> have G := Lib.hid g <;> clear g
      · go_wp2_with (go_at_call 43; refine (c_areNeeded _ _ G.out _ HS.out).mono ?_; rintro e w' ⟨rfl, nd, rfl⟩)
        go_ret
        exact ⟨by rw [HE.out, G.out]; rfl, draws_N _ _⟩
      · by_cases e1 : k = s.size
        · have e2 : ((k : Int) == (s.size : Int)) = true := by simp [e1]
          have E := Lib.hid e1
          clear e1
          go_wp2_with (go_at_call 43; refine (c_areNeeded _ _ G.out _ HS.out).mono ?_; rintro e w' ⟨rfl, nd, rfl⟩)
          go_ret
          exact ⟨by rw [HE.out, G.out, bl_len, decide_eq_true E.out]; rfl, draws_N _ _⟩
        · have e2 : ((k : Int) == (s.size : Int)) = false := by simp; omega
          have E := Lib.hid e1
          clear e1
          go_wp2_with (go_at_call 43; refine (c_areNeeded _ _ G.out _ HS.out).mono ?_; rintro e w' ⟨rfl, nd, rfl⟩)
          go_ret
          exact ⟨by rw [HE.out, G.out, bl_len, decide_eq_false E.out]; rfl, draws_N _ _⟩
end Go.Proofs.Ytnjmjopbeojfoaa
