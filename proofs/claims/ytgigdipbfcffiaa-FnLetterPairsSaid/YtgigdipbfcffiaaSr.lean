/- Contracts: the source of choices. -/
import Derived.Test.YtgigdipbfcffiaaBt
import Derived.Test.YtgigdipbfcffiaaI64
import Derived.Laws.Bits64b
import Derived.IntWalk
namespace Go.Proofs.Ytgigdipbfcffiaa
open Go.RowKit Go.BigFrame
attribute [local go_sem] sub_cell sub_frozen drewN_setCell

/-- The bytes of a slice can be read. -/
def Bys (w : World) (A : Option Addr) (n : Nat) : Prop := n = 0 ∨ ∃ b o, A = some ⟨b, o, none⟩ ∧ b < w.heap.size ∧ ∀ k, k < n → ∃ v : Nat, v ≤ 255 ∧ w.cell? ⟨b, o + k, none⟩ = some (.int .u8 (v : Int))
theorem Bys.keep {w w' : World} {A : Option Addr} {n : Nat} (h : Bys w A n) (hs : w.heap.size ≤ w'.heap.size) (hk : ∀ b o, A = some ⟨b, o, none⟩ → w'.heap[b]? = w.heap[b]?) : Bys w' A n := by
  rcases h with h | ⟨b, o, hA, hb, hc⟩
  · exact .inl h
  · refine .inr ⟨b, o, hA, by omega, fun k hlt => ?_⟩
    obtain ⟨v, hv, h2⟩ := hc k hlt
    exact ⟨v, hv, (World.cell?_of_block (w := w) (hk b o hA)).trans h2⟩
/-- Block g is a source over a slice of bytes; at most t choices have been taken. -/
def Src (w : World) (g : Nat) (A : Option Addr) (n c t : Nat) : Prop :=
  ∃ at_ : Nat, ∃ sd : Int, w.heap[g]? = some (.cells #[.slice A n c, .int .i64 (at_ : Int), .int .u64 sd] 73) ∧ at_ ≤ t ∧ (∀ b o, A = some ⟨b, o, none⟩ → 0 < n → b ≠ g) ∧ Bys w A n
theorem src_set {w : World} {g : Nat} {T : TypeId} {s x y u v : Value} (hg : w.heap[g]? = some (.cells #[s, x, y] T)) : ((w.setCell ⟨g, 1, none⟩ u).setCell ⟨g, 2, none⟩ v).heap[g]? = some (.cells #[s, u, v] T) := by
  simp [World.setCell, Array.getElem?_modify, hg]
theorem grown_set {w w' : World} {g : Nat} (h : w.grownBy w' (some g)) (o : Nat) (u : Value) : w.grownBy (w'.setCell ⟨g, o, none⟩ u) (some g) :=
  ⟨h.os, h.tape, h.output, by simpa [World.setCell] using h.size, fun i hi hne => (Below.heap_setCell w' ⟨g, o, none⟩ u i (by rintro rfl; exact hne rfl)).trans (h.block i hi hne)⟩
theorem grown_drewN {w w' : World} {row : Option Nat} (h : w.grownBy w' row) (n : Nat) : w.grownBy (w'.drewN n) row := ⟨h.os, h.tape, h.output, h.size, h.block⟩
theorem grown_rfl (w : World) (row : Option Nat) : w.grownBy w row := ⟨rfl, rfl, rfl, Nat.le_refl _, fun _ _ _ => rfl⟩
theorem grown_trans {w w' w'' : World} {row : Option Nat} (h : w.grownBy w' row) (h' : w'.grownBy w'' row) : w.grownBy w'' row :=
  ⟨h'.os.trans h.os, h'.tape.trans h.tape, h'.output.trans h.output, Nat.le_trans h.size h'.size, fun i hi hne => (h'.block i (Nat.lt_of_lt_of_le hi h.size) hne).trans (h.block i hi hne)⟩
/-- What a choice leaves: a number below N. -/
def PickP (N : Int) (w : World) (g : Nat) (A : Option Addr) (n c t : Nat) (r : Ending) (w' : World) : Prop :=
  ∃ x : Int, r = .returned (.int .i64 x) ∧ 0 ≤ x ∧ x < N ∧ Src w' g A n c t ∧ w.grownBy w' (some g)
theorem Src.of_set {w w' : World} {g n c t a : Nat} {A : Option Addr} {sd y : Int} {x : Value} (hg : w.heap[g]? = some (.cells #[.slice A n c, x, .int .u64 y] 73))
    (h : w'.heap[g]? = some (.cells #[.slice A n c, .int .i64 (a : Int), .int .u64 sd] 73)) (ha : a ≤ t) (hA : ∀ b o, A = some ⟨b, o, none⟩ → 0 < n → b ≠ g) (hb : Bys w A n) (hw : w.grownBy w' (some g)) : Src w' g A n c t :=
  ⟨a, sd, h, ha, hA, by
    rcases Nat.eq_zero_or_pos n with h0 | h0
    · exact .inl h0
    rcases hb with h1 | ⟨b, o, e, hlt, hc⟩
    · exact .inl h1
    · exact Bys.keep (.inr ⟨b, o, e, hlt, hc⟩) hw.size fun b' o' e' => by
        rw [e] at e'
        simp only [Option.some.injEq, Addr.mk.injEq, and_true] at e'
        obtain ⟨rfl, rfl⟩ := e'
        exact hw.block b hlt (by simp; exact hA b o e h0)⟩
theorem wrap_u64_bd (x : Int) : 0 ≤ IntKind.u64.wrap x ∧ IntKind.u64.wrap x ≤ 18446744073709551615 := by
  simp [IntKind.wrap, IntKind.signed, IntKind.bits]
  omega
theorem wrap64_small {x : Int} (h0 : 0 ≤ x) (h1 : x ≤ 255) : wrap64 x = x := IntWalk.wrap64_in _ (by omega)
theorem and255 (x : Int) (h0 : 0 ≤ x) (h1 : x ≤ 18446744073709551615) : 0 ≤ bits .and .u64 x 255 ∧ bits .and .u64 x 255 ≤ 255 := by
  obtain ⟨n, rfl⟩ : ∃ n : Nat, x = n := ⟨x.toNat, by omega⟩
  have h := bits_and_u64_nat n 255 (by omega) (by omega)
  have h2 : ((255 : Nat) : Int) = 255 := rfl
  rw [h2] at h
  rw [h]
  have h3 : n &&& 255 ≤ 255 := Nat.and_le_right
  omega
set_option maxHeartbeats 2000000 in
theorem c_next (g : Nat) (A : Option Addr) (n c t : Nat) (w : World) (h : Src w g A n c t) (ht : t ≤ 1099511627776) (hn : n ≤ 1099511627776) :
    Calls Try.prog 39 #[.pointer (some ⟨g, 0, none⟩)] w (PickP 256 w g A n c (t + 1)) := by
  obtain ⟨a, sd, hg, hat, hne, hby⟩ := h
  have k0 : w.cell? ⟨g, 0, none⟩ = some (.slice A n c) := by simp [World.cell?, hg]
  have k1 : w.cell? ⟨g, 1, none⟩ = some (.int .i64 (a : Int)) := by simp [World.cell?, hg]
  have k2 : w.cell? ⟨g, 2, none⟩ = some (.int .u64 sd) := by simp [World.cell?, hg]
  have f1 : w.frozen? ⟨g, 1, none⟩ = false := by simp [World.frozen?, hg]
  have f2 : w.frozen? ⟨g, 2, none⟩ = false := by simp [World.frozen?, hg]
  have HG := Lib.hid hg
  have HNE := Lib.hid hne
  have HBY := Lib.hid hby
  clear hg hne hby
  by_cases hlt : a < n
  · rcases HBY.out with h0 | ⟨b, o, rfl, hb, hc⟩
    · omega
    obtain ⟨v, hv, hcv⟩ := hc a hlt
    have hgb : b ≠ g := HNE.out b o rfl (by omega)
    have hI : (a : Int) < n := by omega
    have hI2 : (a : Int) + 1 ≤ n := by omega
    have hI0 : (0 : Int) ≤ (a : Int) := by omega
    clear hc
    go_enter Try.func39, Try.ntmps39
    go_wp2_with fail
    go_quiet (fail)
    go_wp2_with fail
    go_quiet (fail)
    go_wp2_with fail
    go_quiet (fail)
    go_wp2_with fail
    go_returns
    exact ⟨_, rfl, by omega, by omega, Src.of_set HG.out (src_set HG.out) (a := a + 1) (by omega) HNE.out HBY.out (by repeat (first | exact grown_rfl _ _ | refine grown_drewN ?_ _ | refine grown_set ?_ _ _)), (by repeat (first | exact grown_rfl _ _ | refine grown_drewN ?_ _ | refine grown_set ?_ _ _))⟩
  · have hI : ¬ (a : Int) < n := by omega
    have hI2 : ¬ (a : Int) + 1 ≤ n := by omega
    go_enter Try.func39, Try.ntmps39
    go_wp2_with fail
    go_quiet (fail)
    go_wp2_with fail
    go_quiet (fail)
    go_wp2_with fail
    have hx := and255 (IntKind.u64.wrap (IntKind.u64.wrap (IntKind.u64.wrap (sd * 6364136223846793005)) + 1442695040888963407) / 1099511627776) (by
      have h1 := wrap_u64_bd (IntKind.u64.wrap (IntKind.u64.wrap (sd * 6364136223846793005)) + 1442695040888963407)
      omega) (by
      have h1 := wrap_u64_bd (IntKind.u64.wrap (IntKind.u64.wrap (sd * 6364136223846793005)) + 1442695040888963407)
      omega)
    go_returns
    exact ⟨_, rfl, by rw [wrap64_small (by omega) (by omega)]; omega, by rw [wrap64_small (by omega) (by omega)]; omega, Src.of_set HG.out (src_set HG.out) (a := a + 1) (by omega) HNE.out HBY.out (by repeat (first | exact grown_rfl _ _ | refine grown_drewN ?_ _ | refine grown_set ?_ _ _)), (by repeat (first | exact grown_rfl _ _ | refine grown_drewN ?_ _ | refine grown_set ?_ _ _))⟩
end Go.Proofs.Ytgigdipbfcffiaa
