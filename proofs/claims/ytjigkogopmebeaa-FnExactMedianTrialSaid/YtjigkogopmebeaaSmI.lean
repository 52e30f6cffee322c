/- Go's stable sort: a 'less' that may lay new blocks; the insertion sort under it. -/
import Derived.Test.YtjigkogopmebeaaSm2
namespace Go.Proofs.Ytjigkogopmebeaa
open Go.Shelf Go.RowKit Go.Lib Go.Sort
section
variable {P : Program} {ρ : Ren} {α : Type} [Inhabited α]

/-- What is asked of 'less': in whatever world the sort passes through it answers, draws, and may lay new blocks. -/
def LessG (P : Program) (g : Nat) (lb : Array Value) (enc : α → Value) (lt : α → α → Bool) (blk off size : Nat) (w0 : World) : Prop :=
  ∀ (dk : Array α) (W : World), SW enc w0 blk off dk W → dk.size = size → ∀ i j : Nat, i < size → j < size →
    Calls P g (#[.int .i64 i, .int .i64 j] ++ lb) W fun e w' => e = .returned (.bool (lt dk[i]! dk[j]!)) ∧ ∃ q os, w' = grow (W.drewN q) os
theorem sw_grow {enc : α → Value} {w0 W : World} {blk off : Nat} {dk : Array α} (h : SW enc w0 blk off dk W) (q : Nat) (os : Array Obj) : SW enc w0 blk off dk (grow (W.drewN q) os) := by
  obtain ⟨n, os0, e⟩ := h.drewN q
  exact ⟨n, os0 ++ os, by rw [e]; unfold sortWorld; rw [grow_grow]⟩

set_option maxHeartbeats 4000000 in
set_option maxRecDepth 100000 in
theorem ins_w (L : LaysGt.n29 P ρ) (enc : α → Value) (lt : α → α → Bool) (g : Nat) (lb : Array Value) (sf : Nat) (sb : Array Value) (blk off : Nat) (d0 : Array α) (w0 : World)
    (eg : ∀ args w, (callFunc g args).run P w = .ok (.enter g args) w) (hL : LessG P g lb enc lt blk off d0.size w0) (hswap : SwapSwaps P sf sb enc blk off d0.size) (hH0 : Holds enc w0 blk off d0) (hblk0 : blk < w0.heap.size) (hsz : d0.size < 4611686018427387904)
    (d : Array α) (hsd : d.size = d0.size) (a b : Nat) (W : World) (hW : SW enc w0 blk off d W) (hab : a ≤ b) (hb : b ≤ d.size) :
    Calls P (ρ.f 29) #[.agg #[.func (.func g) #[] lb, .func (.func sf) #[] sb], .int .i64 a, .int .i64 b] W fun e w' => e = .returned (.tuple #[]) ∧ SW enc W blk off (insertionSort lt d a b) w' := by
  have mixed := L.mixed; have t0 := L.t0; have a0 := L.a0; have z0 := L.z0; have v0 := L.v0; have t3 := L.t3; have a3 := L.a3; have z3 := L.z3; have v3 := L.v3; have t4 := L.t4; have a4 := L.a4; have z4 := L.z4; have v4 := L.v4; have t26 := L.t26; have a26 := L.a26; have z26 := L.z26; have v26 := L.v26; have t38 := L.t38; have a38 := L.a38; have z38 := L.z38; have v38 := L.v38; have t42 := L.t42; have a42 := L.a42; have z42 := L.z42; have v42 := L.v42
  have u42 := run_underlying L.t42
  have hs1 := hW.alloc (.cells #[.func (.func g) #[] lb, .func (.func sf) #[] sb] (ρ.t 42))
  have hblk := hW.lt hblk0
  have hH := hW.holds hblk0 hH0 hsd
  have hH1 := holds_alloc (o := (.cells #[.func (.func g) #[] lb, .func (.func sf) #[] sb] (ρ.t 42))) hH hblk
  have hb1 : blk < (W.alloc (.cells #[.func (.func g) #[] lb, .func (.func sf) #[] sb] (ρ.t 42))).heap.size := by simp; omega
  have bx : ∀ (k : Nat) (v : Value), (W.alloc (.cells #[.func (.func g) #[] lb, .func (.func sf) #[] sb] (ρ.t 42))).cell? ⟨W.heap.size, k, none⟩ = some v → ∀ (dk : Array α) wr, SW enc (W.alloc (.cells #[.func (.func g) #[] lb, .func (.func sf) #[] sb] (ρ.t 42))) blk off dk wr → wr.cell? ⟨W.heap.size, k, none⟩ = some v := fun k v h dk wr hs => (swCell hs (by simp) (by omega)).trans h
  have BX0 := Lib.hid (bx 0 (.func (.func g) #[] lb) (by simp))
  have BX1 := Lib.hid (bx 1 (.func (.func sf) #[] sb) (by simp))
  have LS : Hid (∀ (dk : Array α) (wr : World) (i j : Nat), dk.size = d.size → SW enc (W.alloc (.cells #[.func (.func g) #[] lb, .func (.func sf) #[] sb] (ρ.t 42))) blk off dk wr → i < d.size → j < d.size →
      Calls P g (#[.int .i64 i, .int .i64 j] ++ lb) wr fun e w' => e = .returned (.bool (lt dk[i]! dk[j]!)) ∧ SW enc (W.alloc (.cells #[.func (.func g) #[] lb, .func (.func sf) #[] sb] (ρ.t 42))) blk off dk w') :=
    fun dk wr i j h1 h2 h3 h4 => (hL dk wr (swTrans hs1 h2 hblk0 h1) (h1.trans hsd) i j (by omega) (by omega)).mono fun _ w' h => ⟨h.1, by obtain ⟨_, q, os, hq⟩ := h; rw [hq]; exact sw_grow h2 q os⟩
  have S0 := Lib.hid (SW.start hH1)
  have EX : Hid (∀ (dk : Array α) (wr : World) (i j : Nat), dk.size = d.size → SW enc (W.alloc (.cells #[.func (.func g) #[] lb, .func (.func sf) #[] sb] (ρ.t 42))) blk off dk wr → i < d.size → j < d.size →
      (callFunc sf (#[.int .i64 i, .int .i64 j] ++ sb)).run P wr = .ok (.value (.tuple #[])) ((wr.setCell ⟨blk, off + i, none⟩ (enc dk[j]!)).setCell ⟨blk, off + j, none⟩ (enc dk[i]!)) ∧ SW enc (W.alloc (.cells #[.func (.func g) #[] lb, .func (.func sf) #[] sb] (ρ.t 42))) blk off (swp dk i j) ((wr.setCell ⟨blk, off + i, none⟩ (enc dk[j]!)).setCell ⟨blk, off + j, none⟩ (enc dk[i]!))) :=
    fun dk wr i j h1 h2 h3 h4 => ⟨(hsd ▸ hswap) wr dk (h2.holds hb1 hH1 h1) h1 i j h3 h4, h2.swap hb1 i j (h1 ▸ h3) (h1 ▸ h4)⟩
  clear bx hH hH1 hb1 hs1 hL hswap hW hH0
  go_enter L.f29, BodyGt.n29_ntmps ρ
  go_wp2
  go_loopw [6] (fun vi wr => ∃ (i : Nat) (dk : Array α), vi = .int .i64 i ∧ a < i ∧ i ≤ b + 1 ∧ dk.size = d.size ∧ Hid (SW enc (W.alloc (.cells #[.func (.func g) #[] lb, .func (.func sf) #[] sb] (ρ.t 42))) blk off dk wr) ∧ Hid (insOuter lt a b i dk = insOuter lt a b (a + 1) d)) (fun vi _ => b + 1 - (intOf vi).toNat)
  case atStart => exact ⟨a + 1, d, by go_num, by omega, by omega, rfl, S0.out, rfl⟩
  case round =>
    obtain ⟨i, dk, rfl, hai, hib, hsk, hS, HO⟩ := hrel
    rename World => wo
    by_cases hlt : i < b
    · go_wp2
      go_loopw [7] (fun vj wr2 => ∃ (j : Nat) (dj : Array α), vj = .int .i64 j ∧ a ≤ j ∧ j ≤ i ∧ dj.size = d.size ∧ Hid (SW enc (W.alloc (.cells #[.func (.func g) #[] lb, .func (.func sf) #[] sb] (ρ.t 42))) blk off dj wr2) ∧ Hid (insInner lt a j dj = insInner lt a i dk)) (fun vj _ => (intOf vj).toNat)
      case atStart => exact ⟨i, dk, rfl, by omega, Nat.le_refl _, hsk, hS, rfl⟩
      case round =>
        obtain ⟨j, dj, rfl, haj, hji, hsj, hS2, HI⟩ := hrel
        rename World => wi
        have c0 := BX0.out _ _ hS2.out
        have c1 := BX1.out _ _ hS2.out
        by_cases hja : a < j
        · have hl := LS.out dj wi j (j - 1) hsj hS2.out (by omega) (by omega)
          rw [show (((j - 1 : Nat) : Int)) = (j : Int) - 1 by omega] at hl
          cases hlv : lt dj[j]! dj[j - 1]!
          · rw [hlv] at hl
            have OUT : Hid (insOuter lt a b (i + 1) dj = insOuter lt a b (a + 1) d) := by
              show _ = _
              rw [← HO.out, insOuter_go _ _ _ _ _ hlt, ← HI.out, insInner_stop _ _ _ _ (Or.inr hlv)]
            clear hS2 hlv
            go_wp2_with (go_at_fn g; refine hl.mono ?_; rintro e w1 ⟨rfl, hS1⟩; have HS1 := Lib.hid hS1; clear hS1)
            go_roundw
            case rel => first | exact ⟨i + 1, dj, by go_num, by omega, by omega, hsj, HS1, OUT⟩ | ((repeat apply Exists.intro); exact ⟨⟨i + 1, dj, by go_num, by omega, by omega, hsj, HS1, OUT⟩, rfl⟩)
            case measure => simp [intOf]; omega
          · rw [hlv] at hl
            have IN : Hid (insInner lt a (j - 1) (swp dj j (j - 1)) = insInner lt a i dk) := by
              show _ = _
              rw [← HI.out, insInner_go lt a j dj hja hlv]
            clear hS2 hlv
            go_wp2_with (go_at_fn g; refine hl.mono ?_; rintro e w1 ⟨rfl, hS1⟩; have c1 := BX1.out _ _ hS1; obtain ⟨x1, x2⟩ := EX.out dj w1 j (j - 1) hsj hS1 (by omega) (by omega); rw [show (((j - 1 : Nat) : Int)) = (j : Int) - 1 by omega] at x1; have X2 := Lib.hid x2; clear x2 hS1)
            go_roundw
            case rel => first | exact ⟨j - 1, swp dj j (j - 1), by congr 1; omega, by omega, by omega, by rw [size_swp]; exact hsj, X2, IN⟩ | ((repeat apply Exists.intro); exact ⟨⟨j - 1, swp dj j (j - 1), by congr 1; omega, by omega, by omega, by rw [size_swp]; exact hsj, X2, IN⟩, by first | rfl | (congr 1; omega)⟩)
            case measure => simp [intOf]; omega
        · have OUT : Hid (insOuter lt a b (i + 1) dj = insOuter lt a b (a + 1) d) := by
            show _ = _
            rw [← HO.out, insOuter_go _ _ _ _ _ hlt, ← HI.out, insInner_stop _ _ _ _ (Or.inl (by omega))]
          go_wp2
          go_roundw
          case rel => first | exact ⟨i + 1, dj, by go_num, by omega, by omega, hsj, hS2, OUT⟩ | ((repeat apply Exists.intro); exact ⟨⟨i + 1, dj, by go_num, by omega, by omega, hsj, hS2, OUT⟩, rfl⟩)
          case measure => simp [intOf]; omega
    · have HE : Hid (insertionSort lt d a b = dk) := by
        show _ = _
        unfold Sort.insertionSort; rw [← HO.out, insOuter_stop _ _ _ _ _ hlt]
      go_wp2
      go_end0
      exact ⟨rfl, by rw [HE.out]; exact swUnalloc hS.out hblk⟩
end
end Go.Proofs.Ytjigkogopmebeaa
