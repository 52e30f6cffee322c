/- Go's stable sort, blocks merged: swapRange, rotate, symMerge, by walks over any program that bears them. -/
import Derived.Test.YtjigkogopmebeaaSm1
import Derived.Shelf.GgSortMore.Stable
import Derived.Lib.Hide
namespace Go.Proofs.Ytjigkogopmebeaa
open Go.Shelf Go.RowKit Go.Lib Go.Sort
section
variable {P : Program} {ρ : Ren} {α : Type} [Inhabited α]

/-- What lies outside the row and was there at the start. -/
theorem swCell {enc : α → Value} {w0 W : World} {blk off : Nat} {dk : Array α} (h : SW enc w0 blk off dk W) {b o : Nat} (hb : b < w0.heap.size) (hne : b ≠ blk) : W.cell? ⟨b, o, none⟩ = w0.cell? ⟨b, o, none⟩ := by
  obtain ⟨n, os, rfl⟩ := h
  unfold sortWorld
  rw [cell?_grow _ _ _ (by rw [size_putRow]; exact hb), cell?_putRow_other enc _ blk off _ _ (Or.inl hne)]
  rfl
theorem swUnalloc {enc : α → Value} {w0 W : World} {o : Obj} {blk off : Nat} {dk : Array α} (h : SW enc (w0.alloc o) blk off dk W) (hblk : blk < w0.heap.size) : SW enc w0 blk off dk W := by
  obtain ⟨n, os, rfl⟩ := h
  exact ⟨n, _, sortWorld_alloc enc w0 o blk off n dk os hblk⟩
theorem swTrans {enc : α → Value} {w0 W W' : World} {blk off : Nat} {dk d' : Array α} (h : SW enc w0 blk off dk W) (h' : SW enc W blk off d' W') (hblk : blk < w0.heap.size) (hs : d'.size = dk.size) : SW enc w0 blk off d' W' := by
  obtain ⟨n, os, rfl⟩ := h'
  exact h.on hblk n d' os hs
theorem holds_alloc {enc : α → Value} {W : World} {o : Obj} {blk off : Nat} {d : Array α} (h : Holds enc W blk off d) (hblk : blk < W.heap.size) : Holds enc (W.alloc o) blk off d := by
  rw [alloc_eq_grow]; exact holds_grow enc W _ blk off d hblk h

set_option maxHeartbeats 2000000 in
set_option maxRecDepth 100000 in
theorem swapRange_w (L : LaysGt.n49 P ρ) (enc : α → Value) (lf : Fn) (la lb : Array Value) (sf : Nat) (sb : Array Value) (blk off a b n : Nat) (d : Array α) (W : World)
    (hswap : SwapSwaps P sf sb enc blk off d.size) (hH : Holds enc W blk off d) (hblk : blk < W.heap.size) (hab : a ≤ b) (hb : b + n ≤ d.size) (hsz : d.size < 4611686018427387904) :
    Calls P (ρ.f 49) #[.agg #[.func lf la lb, .func (.func sf) #[] sb], .int .i64 a, .int .i64 b, .int .i64 n] W fun e w' => e = .returned (.tuple #[]) ∧ SW enc W blk off (swR d a b n) w' := by
  have mixed := L.mixed; have t0 := L.t0; have a0 := L.a0; have z0 := L.z0; have v0 := L.v0; have t3 := L.t3; have a3 := L.a3; have z3 := L.z3; have v3 := L.v3; have t4 := L.t4; have a4 := L.a4; have z4 := L.z4; have v4 := L.v4; have t26 := L.t26; have a26 := L.a26; have z26 := L.z26; have v26 := L.v26; have t38 := L.t38; have a38 := L.a38; have z38 := L.z38; have v38 := L.v38; have t42 := L.t42; have a42 := L.a42; have z42 := L.z42; have v42 := L.v42
  have u42 := run_underlying L.t42
  have hH1 := holds_alloc (o := .cells #[.func lf la lb, .func (.func sf) #[] sb] (ρ.t 42)) hH hblk
  have hb1 : blk < (W.alloc (.cells #[.func lf la lb, .func (.func sf) #[] sb] (ρ.t 42))).heap.size := by simp; omega
  have bx : ∀ (k : Nat) (v : Value), (W.alloc (.cells #[.func lf la lb, .func (.func sf) #[] sb] (ρ.t 42))).cell? ⟨W.heap.size, k, none⟩ = some v → ∀ (dk : Array α) wr, SW enc (W.alloc (.cells #[.func lf la lb, .func (.func sf) #[] sb] (ρ.t 42))) blk off dk wr → wr.cell? ⟨W.heap.size, k, none⟩ = some v := fun k v h dk wr hs => (swCell hs (by simp) (by omega)).trans h
  have bx1 := bx 1 (.func (.func sf) #[] sb) (by simp)
  have A1 := Lib.hid (And.intro hH1 (And.intro hb1 (And.intro hswap (SW.start hH1))))
  have BX1 := Lib.hid bx1
  clear bx bx1 hH hH1 hb1 hswap
  go_enter L.f49, BodyGt.n49_ntmps ρ
  go_wp2
  go_loopw [8] (fun vi wr => ∃ i : Nat, vi = .int .i64 i ∧ i ≤ n ∧ Hid (SW enc (W.alloc (.cells #[.func lf la lb, .func (.func sf) #[] sb] (ρ.t 42))) blk off (swR d a b i) wr)) (fun vi _ => n - (intOf vi).toNat)
  case atStart => exact ⟨0, rfl, Nat.zero_le _, A1.out.2.2.2⟩
  case round =>
    obtain ⟨i, rfl, hi, hS⟩ := hrel
    by_cases hlt : i < n
    · have c1 := BX1.out _ _ hS.out
      have hsw := A1.out.2.2.1 wr (swR d a b i) (hS.out.holds A1.out.2.1 A1.out.1 (swR_size _ _ _ _)) (swR_size _ _ _ _) (a + i) (b + i) (by omega) (by omega)
      have hn := hS.out.swap A1.out.2.1 (a + i) (b + i) (by rw [swR_size]; omega) (by rw [swR_size]; omega)
      rw [← swR] at hn
      have HN := Lib.hid hn
      clear hn hS
      rw [Int.natCast_add, Int.natCast_add] at hsw
      go_wp2
      go_roundw
      case rel => first | exact ⟨i + 1, by go_num, by omega, HN.out⟩ | ((repeat apply Exists.intro); exact ⟨⟨i + 1, by go_num, by omega, HN.out⟩, rfl⟩)
      case measure => simp [intOf]; omega
    · obtain rfl : i = n := by omega
      go_wp2
      go_end0
      exact ⟨rfl, swUnalloc hS.out hblk⟩

set_option maxHeartbeats 4000000 in
set_option maxRecDepth 100000 in
theorem rotate_w (L : LaysGt.n42 P ρ) (enc : α → Value) (lf : Fn) (la lb : Array Value) (sf : Nat) (sb : Array Value) (blk off a m b : Nat) (d : Array α) (W : World)
    (hswap : SwapSwaps P sf sb enc blk off d.size) (hH : Holds enc W blk off d) (hblk : blk < W.heap.size) (ham : a < m) (hmb : m < b) (hb : b ≤ d.size) (hsz : d.size < 4611686018427387904) :
    Calls P (ρ.f 42) #[.agg #[.func lf la lb, .func (.func sf) #[] sb], .int .i64 a, .int .i64 m, .int .i64 b] W fun e w' => e = .returned (.tuple #[]) ∧ SW enc W blk off (rotL d m (m - a) (b - m)) w' := by
  have mixed := L.mixed; have t0 := L.t0; have a0 := L.a0; have z0 := L.z0; have v0 := L.v0; have t3 := L.t3; have a3 := L.a3; have z3 := L.z3; have v3 := L.v3; have t4 := L.t4; have a4 := L.a4; have z4 := L.z4; have v4 := L.v4; have t26 := L.t26; have a26 := L.a26; have z26 := L.z26; have v26 := L.v26; have t38 := L.t38; have a38 := L.a38; have z38 := L.z38; have v38 := L.v38; have t42 := L.t42; have a42 := L.a42; have z42 := L.z42; have v42 := L.v42
  have u42 := run_underlying L.t42
  have e49 : ∀ args w, (callFunc (ρ.f 49) args).run P w = .ok (.enter (ρ.f 49) args) w := enters_of L.f49 (by kernel_rfl) rfl
  have hH1 := holds_alloc (o := .cells #[.func lf la lb, .func (.func sf) #[] sb] (ρ.t 42)) hH hblk
  have hb1 : blk < (W.alloc (.cells #[.func lf la lb, .func (.func sf) #[] sb] (ρ.t 42))).heap.size := by simp; omega
  have bx : ∀ (k : Nat) (v : Value), (W.alloc (.cells #[.func lf la lb, .func (.func sf) #[] sb] (ρ.t 42))).cell? ⟨W.heap.size, k, none⟩ = some v → ∀ (dk : Array α) wr, SW enc (W.alloc (.cells #[.func lf la lb, .func (.func sf) #[] sb] (ρ.t 42))) blk off dk wr → wr.cell? ⟨W.heap.size, k, none⟩ = some v := fun k v h dk wr hs => (swCell hs (by simp) (by omega)).trans h
  have BX0 := Lib.hid (bx 0 (.func lf la lb) (by simp))
  have BX1 := Lib.hid (bx 1 (.func (.func sf) #[] sb) (by simp))
  have A1 := Lib.hid (And.intro hH1 (And.intro hb1 (And.intro hswap (SW.start hH1))))
  have C : Hid (∀ (dk : Array α) (x y k : Nat) (wr : World), dk.size = d.size → SW enc (W.alloc (.cells #[.func lf la lb, .func (.func sf) #[] sb] (ρ.t 42))) blk off dk wr → x ≤ y → y + k ≤ d.size →
      Calls P (ρ.f 49) #[.agg #[.func lf la lb, .func (.func sf) #[] sb], .int .i64 x, .int .i64 y, .int .i64 k] wr fun e w' => e = .returned (.tuple #[]) ∧ SW enc (W.alloc (.cells #[.func lf la lb, .func (.func sf) #[] sb] (ρ.t 42))) blk off (swR dk x y k) w') :=
    fun dk x y k wr h1 h2 h3 h4 => (swapRange_w { L with } enc lf la lb sf sb blk off x y k dk wr (h1 ▸ hswap) (h2.holds hb1 hH1 h1) (h2.lt hb1) h3 (h1 ▸ h4) (h1 ▸ hsz)).mono fun _ _ h => ⟨h.1, swTrans h2 h.2 hb1 (swR_size _ _ _ _)⟩
  clear bx hH hH1 hb1 hswap
  go_enter L.f42, BodyGt.n42_ntmps ρ
  go_wp2
  go_loopw [8, 9] (fun vi vj wr => ∃ (i j : Nat) (dk : Array α), vi = .int .i64 i ∧ vj = .int .i64 j ∧ 0 < i ∧ 0 < j ∧ i ≤ m ∧ m + j ≤ d.size ∧ dk.size = d.size ∧ Hid (SW enc (W.alloc (.cells #[.func lf la lb, .func (.func sf) #[] sb] (ρ.t 42))) blk off dk wr) ∧ Hid (rotL dk m i j = rotL d m (m - a) (b - m))) (fun vi vj _ => (intOf vi).toNat + (intOf vj).toNat)
  case atStart => exact ⟨m - a, b - m, d, by go_num, by go_num, by omega, by omega, by omega, by omega, rfl, A1.out.2.2.2, rfl⟩
  case round =>
    obtain ⟨i, j, dk, rfl, rfl, hi, hj, him, hmj, hs, hS, hR⟩ := hrel
    have c0 := BX0.out _ _ hS.out
    have c1 := BX1.out _ _ hS.out
    rcases Nat.lt_trichotomy i j with h | h | h
    · have hc := C.out dk (m - i) (m + j - i) i wr hs hS.out (by omega) (by omega)
      rw [show ((m - i : Nat) : Int) = (m : Int) - i by omega, show ((m + j - i : Nat) : Int) = (m : Int) + j - i by omega] at hc
      have hR2 := hR.out
      rw [rotL_lt dk m i j hi h] at hR2
      have HR := Lib.hid hR2
      have HC := Lib.hid hc
      have q1 : ((i : Int) == j) = false := by simp; omega
      have q2 : ¬ (j : Int) < i := by omega
      clear hc hR hR2 hS
      go_wp2_with (go_at_fn (ρ.f 49); refine HC.out.mono ?_; rintro e w1 ⟨rfl, hS1⟩; have HS1 := Lib.hid hS1; clear hS1)
      go_roundw
      case rel => exact ⟨i, j - i, _, rfl, by go_num, hi, by omega, him, by omega, by rw [swR_size]; exact hs, HS1, HR⟩
      case measure => simp [intOf]; omega
    · subst h
      have hc := C.out dk (m - i) m i wr hs hS.out (by omega) (by omega)
      rw [show ((m - i : Nat) : Int) = (m : Int) - i by omega] at hc
      have hR2 := hR.out
      rw [rotL_eq dk m i hi] at hR2
      have HR := Lib.hid hR2
      have HC := Lib.hid hc
      clear hc hR hR2 hS
      go_wp2_with (go_at_fn (ρ.f 49); refine HC.out.mono ?_; rintro e w1 ⟨rfl, hS1⟩; have HS1 := Lib.hid hS1; clear hS1)
      go_end0
      exact ⟨rfl, HR.out ▸ swUnalloc HS1.out hblk⟩
    · have hc := C.out dk (m - i) m j wr hs hS.out (by omega) (by omega)
      rw [show ((m - i : Nat) : Int) = (m : Int) - i by omega] at hc
      have hR2 := hR.out
      rw [rotL_gt dk m i j hj h] at hR2
      have HR := Lib.hid hR2
      have HC := Lib.hid hc
      have q1 : ((i : Int) == j) = false := by simp; omega
      have q2 : (j : Int) < i := by omega
      clear hc hR hR2 hS
      go_wp2_with (go_at_fn (ρ.f 49); refine HC.out.mono ?_; rintro e w1 ⟨rfl, hS1⟩; have HS1 := Lib.hid hS1; clear hS1)
      go_roundw
      case rel => exact ⟨i - j, j, _, by go_num, rfl, by omega, hj, by omega, hmj, by rw [swR_size]; exact hs, HS1, HR⟩
      case measure => simp [intOf]; omega
end
end Go.Proofs.Ytjigkogopmebeaa
