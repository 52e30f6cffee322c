/- Contracts: choices, and copies with carbon paper. -/
import Derived.Test.YtgigdipbfcffiaaSr
import Derived.Test.YtgigdipbfcffiaaTw
namespace Go.Proofs.Ytgigdipbfcffiaa
open Go.RowKit Go.BigFrame
attribute [local go_sem] sub_cell sub_frozen drewN_setCell

theorem Src.more {w : World} {g n c t t' : Nat} {A : Option Addr} (h : Src w g A n c t) (ht : t ≤ t') : Src w g A n c t' := by
  obtain ⟨a, sd, h1, h2, h3, h4⟩ := h
  exact ⟨a, sd, h1, by omega, h3, h4⟩
theorem Src.lt {w : World} {g n c t : Nat} {A : Option Addr} (h : Src w g A n c t) : g < w.heap.size := by
  obtain ⟨a, sd, h1, _⟩ := h
  exact (Array.getElem?_eq_some_iff.1 h1).1
theorem Src.later {w w' : World} {g n c t : Nat} {A : Option Addr} (h : Src w g A n c t) (hb : Below w.heap.size w w') : Src w' g A n c t := by
  have hg := h.lt
  obtain ⟨a, sd, h1, h2, h3, h4⟩ := h
  refine ⟨a, sd, (hb.block g hg).trans h1, h2, h3, ?_⟩
  rcases h4 with h0 | ⟨b, o, hA, hlt, hc⟩
  · exact .inl h0
  · refine .inr ⟨b, o, hA, by have := hb.size; omega, fun k hk => ?_⟩
    obtain ⟨v, hv, hcv⟩ := hc k hk
    exact ⟨v, hv, (hb.cell (p := ⟨b, o + k, none⟩) hlt).trans hcv⟩
theorem Bys.lt {w : World} {A : Option Addr} {n : Nat} (h : Bys w A n) (b o : Nat) (e : A = some ⟨b, o, none⟩) (hn : 0 < n) : b < w.heap.size := by
  rcases h with h0 | ⟨b', o', e', hlt, _⟩
  · omega
  · rw [e] at e'
    simp only [Option.some.injEq, Addr.mk.injEq, and_true] at e'
    omega
theorem Bys.later {w w' : World} {A : Option Addr} {n : Nat} (h : Bys w A n) (hb : Below w.heap.size w w') : Bys w' A n := by
  rcases h with h0 | ⟨b, o, e, hlt, hc⟩
  · exact .inl h0
  · exact .inr ⟨b, o, e, Nat.lt_of_lt_of_le hlt hb.size, fun k hk => by
      obtain ⟨v, hv, hcv⟩ := hc k hk
      exact ⟨v, hv, (hb.cell (p := ⟨b, o + k, none⟩) hlt).trans hcv⟩⟩
set_option maxHeartbeats 2000000 in
theorem c_pick (g : Nat) (A : Option Addr) (n c t : Nat) (N : Int) (w : World) (h : Src w g A n c t) (ht : t ≤ 1000000000) (hn : n ≤ 1099511627776) (hN : 1 ≤ N) (hN2 : N ≤ 1000) :
    Calls Try.prog 25 #[.pointer (some ⟨g, 0, none⟩), .int .i64 N] w (PickP N w g A n c (t + 2)) := by
  have H := Lib.hid h
  clear h
  by_cases h1 : N ≤ 1
  · obtain rfl : N = 1 := by omega
    go_enter Try.func25, Try.ntmps25
    go_wp2_with fail
    go_returns
    exact ⟨0, rfl, by omega, by omega, H.out.more (by omega), grown_rfl _ _⟩
  · by_cases h2 : (200 : Int) < N
    · have hne : (N == 0) = false := beq_eq_false_iff_ne.2 (by omega)
      have hN0 : 0 < N := by omega
      go_enter Try.func25, Try.ntmps25
      go_wp2_with fail
      refine (c_next g A n c t _ H.out (by omega) hn).mono ?_
      rintro r_ w1 ⟨x, rfl, hx0, hx1, hS, hG⟩
      go_wp2_with fail
      refine (c_next g A n c (t + 1) _ hS (by omega) hn).mono ?_
      rintro r_ w2 ⟨y, rfl, hy0, hy1, hS2, hG2⟩
      have hm1 := Int.emod_nonneg (x * 256 + y) (show N ≠ 0 by omega)
      have hm2 := Int.emod_lt_of_pos (x * 256 + y) hN0
      have HS := Lib.hid hS2
      clear hS hS2
      go_wp2_with fail
      go_returns
      exact ⟨_, rfl, hm1, hm2, HS.out, grown_trans hG hG2⟩
    · have hne : (N == 0) = false := beq_eq_false_iff_ne.2 (by omega)
      have hN0 : 0 < N := by omega
      go_enter Try.func25, Try.ntmps25
      go_wp2_with fail
      refine (c_next g A n c t _ H.out (by omega) hn).mono ?_
      rintro r_ w1 ⟨x, rfl, hx0, hx1, hS, hG⟩
      have hm1 := Int.emod_nonneg x (show N ≠ 0 by omega)
      have hm2 := Int.emod_lt_of_pos x hN0
      have HS := Lib.hid (hS.more (show t + 1 ≤ t + 2 by omega))
      clear hS
      go_wp2_with fail
      go_returns
      exact ⟨_, rfl, hm1, hm2, HS.out, hG⟩
theorem src_new {w : World} {A : Option Addr} {n c : Nat} (hb : Bys w A n) : Src (w.alloc (.cells #[.slice A n c, .int .i64 0, .int .u64 0] 73)) w.heap.size A n c 0 := by
  refine ⟨0, 0, by simp [World.alloc, -World.alloc_eq], Nat.le_refl _, fun b o e h => by have := hb.lt b o e h; omega, ?_⟩
  rcases hb with h0 | ⟨b, o, e, hlt, hc⟩
  · exact .inl h0
  · exact .inr ⟨b, o, e, by simp; omega, fun k hk => by
      obtain ⟨v, hv, hcv⟩ := hc k hk
      exact ⟨v, hv, (((Below.refl w.heap.size w).alloc (Nat.le_refl _) _).cell (p := ⟨b, o + k, none⟩) hlt).trans hcv⟩⟩
set_option maxHeartbeats 400000 in
theorem c_l00From (A : Option Addr) (n c : Nat) (w : World) :
    Calls Try.prog 24 #[.slice A n c] w fun e w' => e = .returned (.pointer (some ⟨w.heap.size, 0, none⟩)) ∧ w' = w.alloc (.cells #[.slice A n c, .int .i64 0, .int .u64 0] 73) := by
  go_enter Try.func24, Try.ntmps24
  go_wp2_with fail
  go_ret
  exact ⟨rfl, rfl⟩
theorem below_grown {w w' a : World} {B g : Nat} (hb : Below B a w) (hg : w.grownBy w' (some g)) (hB : B ≤ g) (hBw : B ≤ w.heap.size) : Below B a w' :=
  hb.grown hg hBw fun k hk => by simp only [Option.some.injEq] at hk; omega
/-- What A2Carbon leaves: carbon paper that is valid. -/
def CarbonP (B : Nat) (w : World) (r : Ending) (w' : World) : Prop :=
  ∃ F L M : Int, r = .returned (.agg #[.int .i64 F, .int .i64 L, .int .i64 M]) ∧ 50 ≤ F ∧ F ≤ 345 ∧ 5 ≤ L ∧ L ≤ 84 ∧ 1 ≤ M ∧ M ≤ F ∧ Below B w w'
theorem Src.setOther {w : World} {g n c t p o : Nat} {A : Option Addr} {v : Value} (h : Src w g A n c t) (hp : p ≠ g) (hA : ∀ b o, A = some ⟨b, o, none⟩ → 0 < n → b ≠ p) : Src (w.setCell ⟨p, o, none⟩ v) g A n c t := by
  obtain ⟨a, sd, h1, h2, h3, h4⟩ := h
  have hk : ∀ b, b ≠ p → (w.setCell ⟨p, o, none⟩ v).heap[b]? = w.heap[b]? := fun b hb => Below.heap_setCell w ⟨p, o, none⟩ v b hb
  refine ⟨a, sd, (hk g (Ne.symm hp)).trans h1, h2, h3, ?_⟩
  rcases Nat.eq_zero_or_pos n with h0 | h0
  · exact .inl h0
  · exact Bys.keep h4 (by simp [World.setCell]) fun b' o'' e' => hk b' (hA b' o'' e' h0)
theorem cells_of {w : World} {b : Nat} {T : TypeId} {x y z : Value} (h : w.heap[b]? = some (.cells #[x, y, z] T)) : w.cell? ⟨b, 0, none⟩ = some x ∧ w.cell? ⟨b, 1, none⟩ = some y ∧ w.cell? ⟨b, 2, none⟩ = some z ∧ ∀ k, w.frozen? ⟨b, k, none⟩ = false := by
  refine ⟨?_, ?_, ?_, fun k => ?_⟩ <;> simp [World.cell?, World.frozen?, h]
end Go.Proofs.Ytgigdipbfcffiaa
