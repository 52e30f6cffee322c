/- Slices of Result: marks of a row of the call's own; a row that holds its marks. -/
import Derived.Test.YtkpnkilpaokkcaaMk
import Derived.Test.YtkpnkilpaokkcaaSlResult
import Derived.Test.YtkpnkilpaokkcaaLo
namespace Go.Proofs.Ytkpnkilpaokkcaa
open Go.RowKit Go.BigFrame
attribute [local go_sem] sub_cell sub_frozen drewN_setCell

theorem resultMs_0 {k0 k n K : Nat} (h : k < n) (hK : K = k0 + k * 3) : (flat resultC (resultMs k0 n))[k * 3 + 0]?.getD undef = .string (mtx (K + 0)) := by
  subst hK; rw [flat_get resultC_len (resultMs_at h) (j := 0) rfl]; rfl
theorem resultMs_1 {k0 k n K : Nat} (h : k < n) (hK : K = k0 + k * 3) : (flat resultC (resultMs k0 n))[k * 3 + 1]?.getD undef = .int .i64 ((K + 1 : Nat) : Int) := by
  subst hK; rw [flat_get resultC_len (resultMs_at h) (j := 1) rfl]; rfl
theorem resultMs_2 {k0 k n K : Nat} (h : k < n) (hK : K = k0 + k * 3) : (flat resultC (resultMs k0 n))[k * 3 + 2]?.getD undef = .int .i64 ((K + 2 : Nat) : Int) := by
  subst hK; rw [flat_get resultC_len (resultMs_at h) (j := 2) rfl]; rfl
set_option maxHeartbeats 2000000 in
/-- A row of the call's own is marked. -/
theorem c_markResultS (base n c : Nat) (A : Option Addr) (l : List TResult) (k0 : Nat) (w : World) (hn : l.length = n) (ha : w.ownsRow base 38 3 (.slice A n c) n (flat resultC l)) (hn2 : n ≤ 1099511627) (hk0 : 0 < k0) (hk1 : k0 ≤ 1073741824) :
    Calls Try.prog 11 #[.slice A n c, .int .i64 k0] w fun r w' => r = .returned (.int .i64 ((k0 + n * 3 : Nat) : Int)) ∧ w'.ownsRow base 38 3 (.slice A n c) n (flat resultC (resultMs k0 n)) ∧ w.grownBy w' (Value.ownBlock (.slice A n c)) := by
  have hlen := ha.1
  rcases ha.2 with ⟨h1, h2⟩ | ⟨g, cap, cur, h1, hg, hh, hnc, hcm, hcs, htk⟩
  · simp only [Value.slice.injEq] at h1
    obtain ⟨rfl, rfl, rfl⟩ := h1
    clear ha hlen h2
    go_enter Try.func11, Try.ntmps11
    go_wp2_with fail
    go_loopw [1, 5] (fun q i wr => i = .int .i64 0 ∧ q = .int .i64 k0 ∧ w = wr) (fun _ _ _ => 0)
    case atStart => exact ⟨rfl, rfl, rfl⟩
    case round =>
      obtain ⟨rfl, rfl, rfl⟩ := hrel
      go_wp2_with fail
      go_ret
      exact ⟨by simp, ⟨by simp [resultMs, flat], .inl ⟨rfl, rfl⟩⟩, grown_refl w _⟩
  · simp only [Value.slice.injEq, true_and] at h1
    obtain ⟨rfl, rfl⟩ := h1
    have hrow0 : w.rowIs g 38 (c * 3) (fun i => if i < 0 * 3 then (flat resultC (resultMs k0 n))[i]?.getD undef else cur[i]?.getD undef) := ⟨cur, hh, by omega, fun i hi => by
      have : i < cur.size := by omega
      simp [this]⟩
    have HH := Lib.hid (And.intro hg (And.intro hnc hcm))
    clear ha hlen hh hcs htk
    go_enter Try.func11, Try.ntmps11
    go_wp2_with fail
    go_loopw [1, 5] (fun q i wr => ∃ k K : Nat, k ≤ n ∧ i = .int .i64 k ∧ q = .int .i64 K ∧ K ≤ 1099511627776 ∧ 0 < K ∧ w.grownBy wr (some g) ∧ Hid (K = k0 + k * 3) ∧ wr.rowIs g 38 (c * 3) (fun i => if i < k * 3 then (flat resultC (resultMs k0 n))[i]?.getD undef else cur[i]?.getD undef)) (fun _ i _ => n - (intOf i).toNat)
    case atStart => exact ⟨0, k0, Nat.zero_le _, rfl, rfl, by omega, hk0, grown_refl w _, by show k0 = _; simp, hrow0⟩
    case round =>
      obtain ⟨k, K, hk, rfl, rfl, hK1, hK0, hB, HK, hrow⟩ := hrel
      by_cases hlt : k < n
      · have hk9 : K + 3 ≤ 1099511627776 := by have := HK.out; omega
        have hkc : k * 3 + 3 ≤ c * 3 := by omega
        have HR := Lib.hid hrow
        clear hrow hrow0
        go_wp2_with (go_at_call 20; refine (c_markTextI _ (K + 0) (by omega) (by omega) (by omega) _).mono ?_; rintro r_ w1 ⟨rfl, hb1⟩; have R1 := Lib.hid ((HR.out).of_block (hb1.block _ (HR.out).lt)); have G1 := Lib.hid (gb_below (hB) hb1); obtain ⟨v0, r0⟩ : ∃ v, w1.cell? ⟨g, k * 3, none⟩ = some v := ⟨_, (R1.out).cell (by omega)⟩; have f0 := (R1.out).frozen (k * 3); obtain ⟨v1, r1⟩ : ∃ v, w1.cell? ⟨g, k * 3 + 1, none⟩ = some v := ⟨_, (R1.out).cell (by omega)⟩; have f1 := (R1.out).frozen (k * 3 + 1); obtain ⟨v2, r2⟩ : ∃ v, w1.cell? ⟨g, k * 3 + 2, none⟩ = some v := ⟨_, (R1.out).cell (by omega)⟩; have f2 := (R1.out).frozen (k * 3 + 2); clear hb1)
        go_roundw
        case rel => exact ⟨k + 1, K + 3, by omega, by go_num, by go_num, hk9, by omega, (only_setCell ((only_setCell ((only_setCell (G1.out) _ _)) _ _)) _ _), by have := HK.out; show K + 3 = _; omega, ((row_step ((row_step ((row_step (R1.out) (resultMs_0 hlt HK.out))) (resultMs_1 hlt HK.out))) (resultMs_2 hlt HK.out))).congr fun i _ => by rw [show (k + 1) * 3 = k * 3 + 2 + 1 by omega]⟩
        case measure => simp [intOf]; omega
      · go_wp2_with fail
        go_ret
        obtain rfl : k = n := by omega
        obtain ⟨cs, h1, h2, h3⟩ := hrow
        have hfl := flat_length resultC_len (resultMs k0 k)
        rw [resultMs_len] at hfl
        refine ⟨by rw [HK.out]; rfl, ⟨hfl, .inr ⟨g, c, cs, rfl, HH.out.1, h1, HH.out.2.1, HH.out.2.2, by omega, ?_⟩⟩, hB⟩
        apply List.ext_getElem?
        intro i
        rw [List.getElem?_take]
        by_cases hi : i < k * 3
        · have h4 := h3 i (by omega)
          dsimp only at h4
          rw [if_pos hi] at h4 ⊢
          rw [Array.getElem?_toList, h4, List.getElem?_eq_getElem (by omega)]
          rfl
        · rw [if_neg hi, List.getElem?_eq_none (by omega)]

theorem resultM_eq {k0 k K : Nat} (hK : K = k0 + k * 3) : resultM k0 k = (mtx (K + 0), ((K + 1 : Nat) : Int), ((K + 2 : Nat) : Int)) := by subst hK; rfl
set_option maxHeartbeats 2000000 in
theorem c_heldResultS (A : Option Addr) (n c : Nat) (k0 : Nat) (w : World) (ha : Sl resultC w w.heap.size 3 A n (resultMs k0 n)) (hn : n ≤ 1099511627) (hk0 : 0 < k0) (hk1 : k0 ≤ 1073741824) :
    Calls Try.prog 12 #[.slice A n c, .int .i64 k0] w fun r w' => r = .returned (.int .i64 ((k0 + n * 3 : Nat) : Int)) ∧ Below w.heap.size w w' := by
  go_enter Try.func12, Try.ntmps12
  go_wp2_with fail
  go_loopw [1, 5] (fun q i wr => ∃ k K : Nat, k ≤ n ∧ i = .int .i64 k ∧ q = .int .i64 K ∧ Below w.heap.size w wr ∧ Hid (K = k0 + k * 3)) (fun _ i _ => n - (intOf i).toNat)
  case atStart => exact ⟨0, k0, Nat.zero_le _, rfl, rfl, Below.refl _ _, by show k0 = _; simp⟩
  case round =>
    obtain ⟨k, K, hk, rfl, rfl, hB, HK⟩ := hrel
    have hz := hB.size
    by_cases hlt : k < n
    · have hk9 : K + 3 ≤ 1099511627776 := by have := HK.out; omega
      have hK0 : 0 < K := by have := HK.out; omega
      obtain ⟨b, o, u0, u1, u2, rfl, hb1, hb2, hx, c0, c1, c2⟩ := result_at ha hB hlt
      have hx2 := resultMs_get hx
      rw [resultM_eq HK.out] at hx2
      simp only [Prod.mk.injEq] at hx2
      obtain ⟨rfl, rfl, rfl⟩ := hx2
      have t0 := txt_eq (show mtx (K + 0) = mtx (K + 0) from rfl)
      clear ha hx
      go_wp2_with fail
      refine wp_region_below (by kernel_rfl) (by kernel_rfl) ?_
      repeat (go_big_quiet_step ((go_at_call 20; refine qBg (c_markTextI _ (K + 0) (by omega) (by omega) (by omega) _) (by simp) ?_; intro w_ h_; exact h_)))
      refine wpQuiet_nil ?_
      intro _ hw'
      obtain ⟨⟨x1, hb11⟩, hw''⟩ := hw'
      subst hw''
      have hB1 := hB.trans (hb11.mono hB.size)
      obtain ⟨hc1, hf1⟩ := bcell hb11
      have hz1 := hb11.size
      have hl1 := Nat.lt_of_lt_of_le hb1 hz1
      clear hb11
      go_wp2_with fail
      go_roundw
      case rel => exact ⟨k + 1, K + 3, by omega, by go_num, by go_num, hB1, by have := HK.out; show K + 3 = _; omega⟩
      case measure => simp [intOf]; omega
    · go_wp2_with fail
      go_ret
      obtain rfl : k = n := by omega
      exact ⟨by rw [HK.out]; rfl, hB⟩
/-- A row of the call's own, as a slice to be read. -/
theorem result_own {w : World} {base n c : Nat} {A : Option Addr} {e : TypeId} {l : List TResult} (hl : l.length = n) (h : w.ownsRow base e 3 (.slice A n c) n (flat resultC l)) : Sl resultC w w.heap.size 3 A n l := ⟨hl, resultC_len, Rd.of_own h⟩
theorem result_slOwn {w : World} {g n base : Nat} {e : TypeId} {l : List TResult} (h : OwnSl resultC w g e 3 l) (hl : l.length = n) (hb : base ≤ g) (hn : n ≤ maxLen) : w.ownsRow base e 3 (.slice (some ⟨g, 0, none⟩) n n) n (flat resultC l) := by
  subst hl
  obtain ⟨_, cs, h1, h2, h3⟩ := h
  have hfl := flat_length resultC_len l
  refine ⟨hfl, .inr ⟨g, l.length, cs, rfl, hb, h1, Nat.le_refl _, hn, by omega, ?_⟩⟩
  apply List.ext_getElem?
  intro i
  rw [List.getElem?_take]
  by_cases hi : i < l.length * 3
  · have h4 := h3 i hi
    rw [if_pos hi, Array.getElem?_toList, h4]
    have hlt : i < (flat resultC l).length := by omega
    simp [List.getElem?_eq_getElem hlt]
  · rw [if_neg hi, List.getElem?_eq_none (by omega)]
end Go.Proofs.Ytkpnkilpaokkcaa
