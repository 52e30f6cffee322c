/- Slices of Fraction: marks of a row of the call's own; a row that holds its marks. -/
import Derived.Test.YtgdmiddiaogpaaaMk
import Derived.Test.YtgdmiddiaogpaaaSlFraction
import Derived.Test.YtgdmiddiaogpaaaLo
namespace Go.Proofs.Ytgdmiddiaogpaaa
open Go.RowKit Go.BigFrame
attribute [local go_sem] sub_cell sub_frozen drewN_setCell

theorem fractionMs_0 {k0 k n K : Nat} (h : k < n) (hK : K = k0 + k * 2) : (flat fractionC (fractionMs k0 n))[k * 2 + 0]?.getD undef = .int .i64 ((K + 0 : Nat) : Int) := by
  subst hK; rw [flat_get fractionC_len (fractionMs_at h) (j := 0) rfl]; rfl
theorem fractionMs_1 {k0 k n K : Nat} (h : k < n) (hK : K = k0 + k * 2) : (flat fractionC (fractionMs k0 n))[k * 2 + 1]?.getD undef = .int .i64 ((K + 1 : Nat) : Int) := by
  subst hK; rw [flat_get fractionC_len (fractionMs_at h) (j := 1) rfl]; rfl
set_option maxHeartbeats 2000000 in
/-- A row of the call's own is marked. -/
theorem c_markFractionS (base n c : Nat) (A : Option Addr) (l : List TFraction) (k0 : Nat) (w : World) (hn : l.length = n) (ha : w.ownsRow base 96 2 (.slice A n c) n (flat fractionC l)) (hn2 : n ≤ 1099511627) (hk0 : 0 < k0) (hk1 : k0 ≤ 1073741824) :
    Calls Try.prog 51 #[.slice A n c, .int .i64 k0] w fun r w' => r = .returned (.int .i64 ((k0 + n * 2 : Nat) : Int)) ∧ w'.ownsRow base 96 2 (.slice A n c) n (flat fractionC (fractionMs k0 n)) ∧ w.grownBy w' (Value.ownBlock (.slice A n c)) := by
  have hlen := ha.1
  rcases ha.2 with ⟨h1, h2⟩ | ⟨g, cap, cur, h1, hg, hh, hnc, hcm, hcs, htk⟩
  · simp only [Value.slice.injEq] at h1
    obtain ⟨rfl, rfl, rfl⟩ := h1
    clear ha hlen h2
    go_enter Try.func51, Try.ntmps51
    go_wp2_with fail
    go_loopw [1, 5] (fun q i wr => i = .int .i64 0 ∧ q = .int .i64 k0 ∧ w = wr) (fun _ _ _ => 0)
    case atStart => exact ⟨rfl, rfl, rfl⟩
    case round =>
      obtain ⟨rfl, rfl, rfl⟩ := hrel
      go_wp2_with fail
      go_ret
      exact ⟨by simp, ⟨by simp [fractionMs, flat], .inl ⟨rfl, rfl⟩⟩, grown_refl w _⟩
  · simp only [Value.slice.injEq, true_and] at h1
    obtain ⟨rfl, rfl⟩ := h1
    have hrow0 : w.rowIs g 96 (c * 2) (fun i => if i < 0 * 2 then (flat fractionC (fractionMs k0 n))[i]?.getD undef else cur[i]?.getD undef) := ⟨cur, hh, by omega, fun i hi => by
      have : i < cur.size := by omega
      simp [this]⟩
    have HH := Lib.hid (And.intro hg (And.intro hnc hcm))
    clear ha hlen hh hcs htk
    go_enter Try.func51, Try.ntmps51
    go_wp2_with fail
    go_loopw [1, 5] (fun q i wr => ∃ k K : Nat, k ≤ n ∧ i = .int .i64 k ∧ q = .int .i64 K ∧ K ≤ 1099511627776 ∧ 0 < K ∧ w.grownBy wr (some g) ∧ Hid (K = k0 + k * 2) ∧ wr.rowIs g 96 (c * 2) (fun i => if i < k * 2 then (flat fractionC (fractionMs k0 n))[i]?.getD undef else cur[i]?.getD undef)) (fun _ i _ => n - (intOf i).toNat)
    case atStart => exact ⟨0, k0, Nat.zero_le _, rfl, rfl, by omega, hk0, grown_refl w _, by show k0 = _; simp, hrow0⟩
    case round =>
      obtain ⟨k, K, hk, rfl, rfl, hK1, hK0, hB, HK, hrow⟩ := hrel
      by_cases hlt : k < n
      · have hk9 : K + 2 ≤ 1099511627776 := by have := HK.out; omega
        have hkc : k * 2 + 2 ≤ c * 2 := by omega
        have HR := Lib.hid hrow
        clear hrow hrow0
        obtain ⟨v0, r0⟩ : ∃ v, wr.cell? ⟨g, k * 2, none⟩ = some v := ⟨_, (HR.out).cell (by omega)⟩
        have f0 := (HR.out).frozen (k * 2)
        obtain ⟨v1, r1⟩ : ∃ v, wr.cell? ⟨g, k * 2 + 1, none⟩ = some v := ⟨_, (HR.out).cell (by omega)⟩
        have f1 := (HR.out).frozen (k * 2 + 1)
        go_wp2_with fail
        go_roundw
        case rel => exact ⟨k + 1, K + 2, by omega, by go_num, by go_num, hk9, by omega, (only_setCell ((only_setCell (hB) _ _)) _ _), by have := HK.out; show K + 2 = _; omega, ((row_step ((row_step (HR.out) (fractionMs_0 hlt HK.out))) (fractionMs_1 hlt HK.out))).congr fun i _ => by rw [show (k + 1) * 2 = k * 2 + 1 + 1 by omega]⟩
        case measure => simp [intOf]; omega
      · go_wp2_with fail
        go_ret
        obtain rfl : k = n := by omega
        obtain ⟨cs, h1, h2, h3⟩ := hrow
        have hfl := flat_length fractionC_len (fractionMs k0 k)
        rw [fractionMs_len] at hfl
        refine ⟨by rw [HK.out]; rfl, ⟨hfl, .inr ⟨g, c, cs, rfl, HH.out.1, h1, HH.out.2.1, HH.out.2.2, by omega, ?_⟩⟩, hB⟩
        apply List.ext_getElem?
        intro i
        rw [List.getElem?_take]
        by_cases hi : i < k * 2
        · have h4 := h3 i (by omega)
          dsimp only at h4
          rw [if_pos hi] at h4 ⊢
          rw [Array.getElem?_toList, h4, List.getElem?_eq_getElem (by omega)]
          rfl
        · rw [if_neg hi, List.getElem?_eq_none (by omega)]

theorem fractionM_eq {k0 k K : Nat} (hK : K = k0 + k * 2) : fractionM k0 k = (((K + 0 : Nat) : Int), ((K + 1 : Nat) : Int)) := by subst hK; rfl
set_option maxHeartbeats 2000000 in
theorem c_heldFractionS (A : Option Addr) (n c : Nat) (k0 : Nat) (w : World) (ha : Sl fractionC w w.heap.size 2 A n (fractionMs k0 n)) (hn : n ≤ 1099511627) (hk0 : 0 < k0) (hk1 : k0 ≤ 1073741824) :
    Calls Try.prog 52 #[.slice A n c, .int .i64 k0] w fun r w' => r = .returned (.int .i64 ((k0 + n * 2 : Nat) : Int)) ∧ Below w.heap.size w w' := by
  go_enter Try.func52, Try.ntmps52
  go_wp2_with fail
  go_loopw [1, 5] (fun q i wr => ∃ k K : Nat, k ≤ n ∧ i = .int .i64 k ∧ q = .int .i64 K ∧ Below w.heap.size w wr ∧ Hid (K = k0 + k * 2)) (fun _ i _ => n - (intOf i).toNat)
  case atStart => exact ⟨0, k0, Nat.zero_le _, rfl, rfl, Below.refl _ _, by show k0 = _; simp⟩
  case round =>
    obtain ⟨k, K, hk, rfl, rfl, hB, HK⟩ := hrel
    have hz := hB.size
    by_cases hlt : k < n
    · have hk9 : K + 2 ≤ 1099511627776 := by have := HK.out; omega
      have hK0 : 0 < K := by have := HK.out; omega
      obtain ⟨b, o, u0, u1, rfl, hb1, hb2, hx, c0, c1⟩ := fraction_at ha hB hlt
      have hx2 := fractionMs_get hx
      rw [fractionM_eq HK.out] at hx2
      simp only [Prod.mk.injEq] at hx2
      obtain ⟨rfl, rfl⟩ := hx2
      clear ha hx

      go_wp2_with fail
      go_roundw
      case rel => exact ⟨k + 1, K + 2, by omega, by go_num, by go_num, hB, by have := HK.out; show K + 2 = _; omega⟩
      case measure => simp [intOf]; omega
    · go_wp2_with fail
      go_ret
      obtain rfl : k = n := by omega
      exact ⟨by rw [HK.out]; rfl, hB⟩
/-- A row of the call's own, as a slice to be read. -/
theorem fraction_own {w : World} {base n c : Nat} {A : Option Addr} {e : TypeId} {l : List TFraction} (hl : l.length = n) (h : w.ownsRow base e 2 (.slice A n c) n (flat fractionC l)) : Sl fractionC w w.heap.size 2 A n l := ⟨hl, fractionC_len, Rd.of_own h⟩
theorem fraction_slOwn {w : World} {g n base : Nat} {e : TypeId} {l : List TFraction} (h : OwnSl fractionC w g e 2 l) (hl : l.length = n) (hb : base ≤ g) (hn : n ≤ maxLen) : w.ownsRow base e 2 (.slice (some ⟨g, 0, none⟩) n n) n (flat fractionC l) := by
  subst hl
  obtain ⟨_, cs, h1, h2, h3⟩ := h
  have hfl := flat_length fractionC_len l
  refine ⟨hfl, .inr ⟨g, l.length, cs, rfl, hb, h1, Nat.le_refl _, hn, by omega, ?_⟩⟩
  apply List.ext_getElem?
  intro i
  rw [List.getElem?_take]
  by_cases hi : i < l.length * 2
  · have h4 := h3 i hi
    rw [if_pos hi, Array.getElem?_toList, h4]
    have hlt : i < (flat fractionC l).length := by omega
    simp [List.getElem?_eq_getElem hlt]
  · rw [if_neg hi, List.getElem?_eq_none (by omega)]
end Go.Proofs.Ytgdmiddiaogpaaa
