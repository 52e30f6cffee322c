/- Go's stable sort: symMerge, by walks over any program that bears it. -/
import Derived.Test.YtjigkogopmebeaaSmI
namespace Go.Proofs.Ytjigkogopmebeaa
open Go.Shelf Go.RowKit Go.Lib Go.Sort
section
variable {P : Program} {ρ : Ren} {α : Type} [Inhabited α]

/-- The middle of two indices, as Go reckons it. -/
theorem half_lt {i j : Nat} (h : i < j) : i ≤ (i + j) / 2 ∧ (i + j) / 2 < j := by omega

set_option maxHeartbeats 8000000 in
set_option maxRecDepth 100000 in
theorem merge_left (L : LaysGt.n30 P ρ) (enc : α → Value) (lt R : α → α → Bool) (hO : Ord R) (g : Nat) (lb : Array Value) (sf : Nat) (sb : Array Value) (blk off : Nat) (d0 : Array α) (w0 : World)
    (eg : ∀ args w, (callFunc g args).run P w = .ok (.enter g args) w) (hL : LessG P g lb enc lt blk off d0.size w0) (hswap : SwapSwaps P sf sb enc blk off d0.size) (hH0 : Holds enc w0 blk off d0) (hblk0 : blk < w0.heap.size) (hsz : d0.size < 4611686018427387904)
    (d : Array α) (hsd : d.size = d0.size) (a b : Nat) (W : World) (hW : SW enc w0 blk off d W) (hmb : a + 1 < b) (hb : b ≤ d.size) (hr : Srt R (a + 1) b d) (hc : Crs lt R a (a + 1) b d) :
    Calls P (ρ.f 30) #[.agg #[.func (.func g) #[] lb, .func (.func sf) #[] sb], .int .i64 a, .int .i64 ((a : Int) + 1), .int .i64 b] W fun e w' => e = .returned (.tuple #[]) ∧ ∃ d', SW enc W blk off d' w' ∧ PermIn a b d d' ∧ Srt R a b d' := by
  have mixed := L.mixed; have t0 := L.t0; have a0 := L.a0; have z0 := L.z0; have v0 := L.v0; have t3 := L.t3; have a3 := L.a3; have z3 := L.z3; have v3 := L.v3; have t4 := L.t4; have a4 := L.a4; have z4 := L.z4; have v4 := L.v4; have t26 := L.t26; have a26 := L.a26; have z26 := L.z26; have v26 := L.v26; have t38 := L.t38; have a38 := L.a38; have z38 := L.z38; have v38 := L.v38; have t42 := L.t42; have a42 := L.a42; have z42 := L.z42; have v42 := L.v42; have t47 := L.t47; have a47 := L.a47; have z47 := L.z47; have v47 := L.v47
  have u42 := run_underlying L.t42
  have hs1 := hW.alloc (.cells #[.func (.func g) #[] lb, .func (.func sf) #[] sb] (ρ.t 42))
  have hblk := hW.lt hblk0
  have hH := hW.holds hblk0 hH0 hsd
  have hH1 := holds_alloc (o := (.cells #[.func (.func g) #[] lb, .func (.func sf) #[] sb] (ρ.t 42))) hH hblk
  have hb1 : blk < (W.alloc (.cells #[.func (.func g) #[] lb, .func (.func sf) #[] sb] (ρ.t 42))).heap.size := by simp; omega
  have bx : ∀ (k : Nat) (v : Value), (W.alloc (.cells #[.func (.func g) #[] lb, .func (.func sf) #[] sb] (ρ.t 42))).cell? ⟨W.heap.size, k, none⟩ = some v → ∀ (dk : Array α) wr, SW enc (W.alloc (.cells #[.func (.func g) #[] lb, .func (.func sf) #[] sb] (ρ.t 42))) blk off dk wr → wr.cell? ⟨W.heap.size, k, none⟩ = some v := fun k v h dk wr hs => (swCell hs (by simp) (by omega)).trans h
  have BX0 := Lib.hid (bx 0 (.func (.func g) #[] lb) (by simp))
  have BX1 := Lib.hid (bx 1 (.func (.func sf) #[] sb) (by simp))
  have LS : Hid (∀ (dk : Array α) (wr : World) (i j : Nat), dk.size = d.size → SW enc (W.alloc (.cells #[.func (.func g) #[] lb, .func (.func sf) #[] sb] (ρ.t 42))) blk off dk wr → i < d.size → j < d.size →
      Calls P g (#[.int .i64 i, .int .i64 j] ++ lb) wr fun e w' => e = .returned (.bool (lt dk[i]! dk[j]!)) ∧ SW enc (W.alloc (.cells #[.func (.func g) #[] lb, .func (.func sf) #[] sb] (ρ.t 42))) blk off dk w') :=
    fun dk wr i j h1 h2 h3 h4 => (hL dk wr (swTrans hs1 h2 hblk0 h1) (h1.trans hsd) i j (hsd ▸ h3) (hsd ▸ h4)).mono fun _ w' h => ⟨h.1, by obtain ⟨_, q, os, hq⟩ := h; rw [hq]; exact sw_grow h2 q os⟩
  have S0 := Lib.hid (SW.start hH1)
  have EX : Hid (∀ (dk : Array α) (wr : World) (i j : Nat), dk.size = d.size → SW enc (W.alloc (.cells #[.func (.func g) #[] lb, .func (.func sf) #[] sb] (ρ.t 42))) blk off dk wr → i < d.size → j < d.size →
      (callFunc sf (#[.int .i64 i, .int .i64 j] ++ sb)).run P wr = .ok (.value (.tuple #[])) ((wr.setCell ⟨blk, off + i, none⟩ (enc dk[j]!)).setCell ⟨blk, off + j, none⟩ (enc dk[i]!)) ∧ SW enc (W.alloc (.cells #[.func (.func g) #[] lb, .func (.func sf) #[] sb] (ρ.t 42))) blk off (swp dk i j) ((wr.setCell ⟨blk, off + i, none⟩ (enc dk[j]!)).setCell ⟨blk, off + j, none⟩ (enc dk[i]!))) :=
    fun dk wr i j h1 h2 h3 h4 => ⟨(hsd ▸ hswap) wr dk (h2.holds hb1 hH1 h1) h1 i j h3 h4, h2.swap hb1 i j (h1 ▸ h3) (h1 ▸ h4)⟩
  have HU : Hid (∀ wr, SW enc (W.alloc (.cells #[.func (.func g) #[] lb, .func (.func sf) #[] sb] (ρ.t 42))) blk off d wr → SW enc W blk off d wr) := fun wr h => swUnalloc h hblk
  have HUP := Lib.hid (up_left hO hr hc)
  have HR := Lib.hid hr
  have HC := Lib.hid hc
  have q0 : ((a : Int) + 1 - a == 1) = true := by simp; omega
  clear bx hH hH1 hb1 hs1 hr hc hL hswap hW hH0
  go_enter L.f30, BodyGt.n30_ntmps ρ
  go_wp2
  go_loopw [8, 9] (fun vi vj wr => ∃ i j : Nat, vi = .int .i64 i ∧ vj = .int .i64 j ∧ Hid (Bis (fun t => !lt d[t]! d[a]!) (a + 1) b i j) ∧ Hid (SW enc (W.alloc (.cells #[.func (.func g) #[] lb, .func (.func sf) #[] sb] (ρ.t 42))) blk off d wr)) (fun vi vj _ => (intOf vj).toNat - (intOf vi).toNat)
  case atStart => exact ⟨a + 1, b, by go_num, rfl, Bis.start _ (by omega), S0.out⟩
  case round =>
    obtain ⟨i, j, rfl, rfl, hB, hS⟩ := hrel
    have c0 := BX0.out _ _ hS.out
    have c1 := BX1.out _ _ hS.out
    have k1 := hB.out.li
    have k2 := hB.out.ij
    have k3 := hB.out.jh
    by_cases hij : i < j
    · obtain ⟨m1, m2⟩ := half_lt hij
      obtain ⟨h, hh⟩ : ∃ h, (i + j) / 2 = h := ⟨_, rfl⟩
      have hhI : ((i : Int) + j) / 2 = (h : Int) := by omega
      rw [hh] at m1 m2
      have hl := LS.out d wr h a rfl hS.out (by omega) (by omega)
      clear hh hS
      cases hlv : lt d[h]! d[a]!
      · rw [hlv] at hl
        have HB := Lib.hid (hB.out.hit HUP.out m1 m2 (by simp [hlv]))
        clear hB hlv
        go_wp2_with (go_at_fn g; refine hl.mono ?_; rintro e w1 ⟨rfl, hS1⟩; have HS1 := Lib.hid hS1; clear hS1)
        go_roundw
        case rel => first | exact ⟨i, h, rfl, rfl, HB, HS1⟩ | ((repeat apply Exists.intro); exact ⟨⟨i, h, rfl, rfl, HB, HS1⟩, rfl⟩)
        case measure => simp [intOf]; omega
      · rw [hlv] at hl
        have HB := Lib.hid (hB.out.miss HUP.out m1 m2 (by simp [hlv]))
        clear hB hlv
        go_wp2_with (go_at_fn g; refine hl.mono ?_; rintro e w1 ⟨rfl, hS1⟩; have HS1 := Lib.hid hS1; clear hS1)
        go_roundw
        case rel => first | exact ⟨h + 1, j, by go_num, rfl, HB, HS1⟩ | ((repeat apply Exists.intro); exact ⟨⟨h + 1, j, by go_num, rfl, HB, HS1⟩, rfl⟩)
        case measure => simp [intOf]; omega
    · obtain rfl : i = j := by omega
      go_wp2
      go_loopw [11] (fun vk wr => ∃ k : Nat, vk = .int .i64 ((a : Int) + k) ∧ a + k + 1 ≤ i ∧ Hid (SW enc (W.alloc (.cells #[.func (.func g) #[] lb, .func (.func sf) #[] sb] (ρ.t 42))) blk off (shU d a k) wr)) (fun vk _ => i - (intOf vk).toNat)
      case atStart => exact ⟨0, by simp, by omega, hS⟩
      case round =>
        clear c0 c1
        obtain ⟨k, rfl, hk, hS⟩ := hrel
        have c0 := BX0.out _ _ hS.out
        have c1 := BX1.out _ _ hS.out
        by_cases hlt : a + k + 1 < i
        · obtain ⟨x1, x2⟩ := EX.out (shU d a k) wr (a + k) (a + k + 1) (shU_size _ _ _) hS.out (by omega) (by omega)
          rw [← shU] at x2
          simp only [Int.natCast_add, Int.natCast_one] at x1
          have X2 := Lib.hid x2
          have hlt2 : (a : Int) + k < i - 1 := by omega
          clear x2 hS
          go_wp2
          go_roundw
          case rel => first | exact ⟨k + 1, by go_num, by omega, X2⟩ | ((repeat apply Exists.intro); exact ⟨⟨k + 1, by go_num, by omega, X2⟩, rfl⟩)
          case measure => simp [intOf]; omega
        · obtain rfl : i = a + k + 1 := by omega
          have hlt2 : ¬ (a : Int) + k < ((a + k + 1 : Nat) : Int) - 1 := by omega
          go_wp2
          (try simp only [Exit.inBlock, Exit.then]); refine bodyPost_ret (results_none rfl _ _ _) rfl ?_
          have h3 := one_left hb (by omega) k3 HR.out HC.out (fun t h1 h2 => by simpa using hB.out.no t h1 h2) (fun t h1 h2 => by simpa using hB.out.yes t h1 h2)
          rw [show a + k + 1 - 1 - a = k by omega] at h3
          exact ⟨rfl, _, swUnalloc hS.out hblk, shU_perm d a k a b (Nat.le_refl _) (by omega) hb, h3⟩

set_option maxHeartbeats 8000000 in
set_option maxRecDepth 100000 in
theorem merge_right (L : LaysGt.n30 P ρ) (enc : α → Value) (lt R : α → α → Bool) (hO : Ord R) (g : Nat) (lb : Array Value) (sf : Nat) (sb : Array Value) (blk off : Nat) (d0 : Array α) (w0 : World)
    (eg : ∀ args w, (callFunc g args).run P w = .ok (.enter g args) w) (hL : LessG P g lb enc lt blk off d0.size w0) (hswap : SwapSwaps P sf sb enc blk off d0.size) (hH0 : Holds enc w0 blk off d0) (hblk0 : blk < w0.heap.size) (hsz : d0.size < 4611686018427387904)
    (d : Array α) (hsd : d.size = d0.size) (a m : Nat) (W : World) (hW : SW enc w0 blk off d W) (ham : a + 1 < m) (hb : m + 1 ≤ d.size) (hr : Srt R a m d) (hc : Crs lt R a m (m + 1) d) :
    Calls P (ρ.f 30) #[.agg #[.func (.func g) #[] lb, .func (.func sf) #[] sb], .int .i64 a, .int .i64 m, .int .i64 ((m : Int) + 1)] W fun e w' => e = .returned (.tuple #[]) ∧ ∃ d', SW enc W blk off d' w' ∧ PermIn a (m + 1) d d' ∧ Srt R a (m + 1) d' := by
  have mixed := L.mixed; have t0 := L.t0; have a0 := L.a0; have z0 := L.z0; have v0 := L.v0; have t3 := L.t3; have a3 := L.a3; have z3 := L.z3; have v3 := L.v3; have t4 := L.t4; have a4 := L.a4; have z4 := L.z4; have v4 := L.v4; have t26 := L.t26; have a26 := L.a26; have z26 := L.z26; have v26 := L.v26; have t38 := L.t38; have a38 := L.a38; have z38 := L.z38; have v38 := L.v38; have t42 := L.t42; have a42 := L.a42; have z42 := L.z42; have v42 := L.v42; have t47 := L.t47; have a47 := L.a47; have z47 := L.z47; have v47 := L.v47
  have u42 := run_underlying L.t42
  have hs1 := hW.alloc (.cells #[.func (.func g) #[] lb, .func (.func sf) #[] sb] (ρ.t 42))
  have hblk := hW.lt hblk0
  have hH := hW.holds hblk0 hH0 hsd
  have hH1 := holds_alloc (o := (.cells #[.func (.func g) #[] lb, .func (.func sf) #[] sb] (ρ.t 42))) hH hblk
  have hb1 : blk < (W.alloc (.cells #[.func (.func g) #[] lb, .func (.func sf) #[] sb] (ρ.t 42))).heap.size := by simp; omega
  have bx : ∀ (k : Nat) (v : Value), (W.alloc (.cells #[.func (.func g) #[] lb, .func (.func sf) #[] sb] (ρ.t 42))).cell? ⟨W.heap.size, k, none⟩ = some v → ∀ (dk : Array α) wr, SW enc (W.alloc (.cells #[.func (.func g) #[] lb, .func (.func sf) #[] sb] (ρ.t 42))) blk off dk wr → wr.cell? ⟨W.heap.size, k, none⟩ = some v := fun k v h dk wr hs => (swCell hs (by simp) (by omega)).trans h
  have BX0 := Lib.hid (bx 0 (.func (.func g) #[] lb) (by simp))
  have BX1 := Lib.hid (bx 1 (.func (.func sf) #[] sb) (by simp))
  have LS : Hid (∀ (dk : Array α) (wr : World) (i j : Nat), dk.size = d.size → SW enc (W.alloc (.cells #[.func (.func g) #[] lb, .func (.func sf) #[] sb] (ρ.t 42))) blk off dk wr → i < d.size → j < d.size →
      Calls P g (#[.int .i64 i, .int .i64 j] ++ lb) wr fun e w' => e = .returned (.bool (lt dk[i]! dk[j]!)) ∧ SW enc (W.alloc (.cells #[.func (.func g) #[] lb, .func (.func sf) #[] sb] (ρ.t 42))) blk off dk w') :=
    fun dk wr i j h1 h2 h3 h4 => (hL dk wr (swTrans hs1 h2 hblk0 h1) (h1.trans hsd) i j (hsd ▸ h3) (hsd ▸ h4)).mono fun _ w' h => ⟨h.1, by obtain ⟨_, q, os, hq⟩ := h; rw [hq]; exact sw_grow h2 q os⟩
  have S0 := Lib.hid (SW.start hH1)
  have EX : Hid (∀ (dk : Array α) (wr : World) (i j : Nat), dk.size = d.size → SW enc (W.alloc (.cells #[.func (.func g) #[] lb, .func (.func sf) #[] sb] (ρ.t 42))) blk off dk wr → i < d.size → j < d.size →
      (callFunc sf (#[.int .i64 i, .int .i64 j] ++ sb)).run P wr = .ok (.value (.tuple #[])) ((wr.setCell ⟨blk, off + i, none⟩ (enc dk[j]!)).setCell ⟨blk, off + j, none⟩ (enc dk[i]!)) ∧ SW enc (W.alloc (.cells #[.func (.func g) #[] lb, .func (.func sf) #[] sb] (ρ.t 42))) blk off (swp dk i j) ((wr.setCell ⟨blk, off + i, none⟩ (enc dk[j]!)).setCell ⟨blk, off + j, none⟩ (enc dk[i]!))) :=
    fun dk wr i j h1 h2 h3 h4 => ⟨(hsd ▸ hswap) wr dk (h2.holds hb1 hH1 h1) h1 i j h3 h4, h2.swap hb1 i j (h1 ▸ h3) (h1 ▸ h4)⟩
  have HU : Hid (∀ wr, SW enc (W.alloc (.cells #[.func (.func g) #[] lb, .func (.func sf) #[] sb] (ρ.t 42))) blk off d wr → SW enc W blk off d wr) := fun wr h => swUnalloc h hblk
  have HUP := Lib.hid (up_right hO hr hc)
  have HR := Lib.hid hr
  have HC := Lib.hid hc
  have q0 : ((m : Int) - a == 1) = false := by simp; omega
  have q1 : ((m : Int) + 1 - m == 1) = true := by simp; omega
  clear bx hH hH1 hb1 hs1 hr hc hL hswap hW hH0
  go_enter L.f30, BodyGt.n30_ntmps ρ
  go_wp2
  go_loopw [12, 13] (fun vi vj wr => ∃ i j : Nat, vi = .int .i64 i ∧ vj = .int .i64 j ∧ Hid (Bis (fun t => lt d[m]! d[t]!) a m i j) ∧ Hid (SW enc (W.alloc (.cells #[.func (.func g) #[] lb, .func (.func sf) #[] sb] (ρ.t 42))) blk off d wr)) (fun vi vj _ => (intOf vj).toNat - (intOf vi).toNat)
  case atStart => exact ⟨a, m, rfl, rfl, Bis.start _ (by omega), S0.out⟩
  case round =>
    obtain ⟨i, j, rfl, rfl, hB, hS⟩ := hrel
    have c0 := BX0.out _ _ hS.out
    have c1 := BX1.out _ _ hS.out
    have k1 := hB.out.li
    have k2 := hB.out.ij
    have k3 := hB.out.jh
    by_cases hij : i < j
    · obtain ⟨m1, m2⟩ := half_lt hij
      obtain ⟨h, hh⟩ : ∃ h, (i + j) / 2 = h := ⟨_, rfl⟩
      have hhI : ((i : Int) + j) / 2 = (h : Int) := by omega
      rw [hh] at m1 m2
      have hl := LS.out d wr m h rfl hS.out (by omega) (by omega)
      clear hh hS
      cases hlv : lt d[m]! d[h]!
      · rw [hlv] at hl
        have HB := Lib.hid (hB.out.miss HUP.out m1 m2 hlv)
        clear hB hlv
        go_wp2_with (go_at_fn g; refine hl.mono ?_; rintro e w1 ⟨rfl, hS1⟩; have HS1 := Lib.hid hS1; clear hS1)
        go_roundw
        case rel => first | exact ⟨h + 1, j, by go_num, rfl, HB, HS1⟩ | ((repeat apply Exists.intro); exact ⟨⟨h + 1, j, by go_num, rfl, HB, HS1⟩, rfl⟩)
        case measure => simp [intOf]; omega
      · rw [hlv] at hl
        have HB := Lib.hid (hB.out.hit HUP.out m1 m2 hlv)
        clear hB hlv
        go_wp2_with (go_at_fn g; refine hl.mono ?_; rintro e w1 ⟨rfl, hS1⟩; have HS1 := Lib.hid hS1; clear hS1)
        go_roundw
        case rel => first | exact ⟨i, h, rfl, rfl, HB, HS1⟩ | ((repeat apply Exists.intro); exact ⟨⟨i, h, rfl, rfl, HB, HS1⟩, rfl⟩)
        case measure => simp [intOf]; omega
    · obtain rfl : i = j := by omega
      go_wp2
      go_loopw [15] (fun vk wr => ∃ k : Nat, vk = .int .i64 ((m : Int) - k) ∧ i + k ≤ m ∧ Hid (SW enc (W.alloc (.cells #[.func (.func g) #[] lb, .func (.func sf) #[] sb] (ρ.t 42))) blk off (shD d m k) wr)) (fun vk _ => (intOf vk).toNat - i)
      case atStart => exact ⟨0, by simp, by omega, hS⟩
      case round =>
        clear c0 c1
        obtain ⟨k, rfl, hk, hS⟩ := hrel
        have c0 := BX0.out _ _ hS.out
        have c1 := BX1.out _ _ hS.out
        by_cases hlt : i + k < m
        · obtain ⟨x1, x2⟩ := EX.out (shD d m k) wr (m - k) (m - k - 1) (shD_size _ _ _) hS.out (by omega) (by omega)
          rw [← shD] at x2
          rw [show ((m - k - 1 : Nat) : Int) = (m : Int) - k - 1 by omega, show ((m - k : Nat) : Int) = (m : Int) - k by omega] at x1
          have X2 := Lib.hid x2
          have hlt2 : (i : Int) < m - k := by omega
          clear x2 hS
          go_wp2
          go_roundw
          case rel => first | exact ⟨k + 1, by go_num, by omega, X2⟩ | ((repeat apply Exists.intro); exact ⟨⟨k + 1, by go_num, by omega, X2⟩, rfl⟩)
          case measure => simp [intOf]; omega
        · have hlt2 : ¬ (i : Int) < m - k := by omega
          go_wp2
          (try simp only [Exit.inBlock, Exit.then]); refine bodyPost_ret (results_none rfl _ _ _) rfl ?_
          have h3 := one_right hb k1 k3 HR.out HC.out (fun t h1 h2 => hB.out.no t h1 h2) (fun t h1 h2 => hB.out.yes t h1 h2)
          rw [show m - i = k by omega] at h3
          exact ⟨rfl, _, swUnalloc hS.out hblk, shD_perm d m k a (m + 1) (by omega) (by omega) hb, h3⟩

end
end Go.Proofs.Ytjigkogopmebeaa
