/- Go's stable sort: symMerge whole. -/
import Derived.Test.YtjigkogopmebeaaSm3
import Derived.Deep.DeepCutAuto
namespace Go.Proofs.Ytjigkogopmebeaa
open Go.Shelf Go.RowKit Go.Lib Go.Sort
section
variable {P : Program} {ρ : Ren} {α : Type} [Inhabited α]

omit [Inhabited α] in
theorem rotF_id (f : Nat → α) {i m E t : Nat} (h : E ≤ m ∨ m ≤ i) (h1 : i ≤ m) (h2 : m ≤ E) : rotF f i m E t = f t := by
  unfold rotF
  (repeat' split) <;> first | rfl | (congr 1; omega) | (exfalso; omega)

set_option maxHeartbeats 16000000 in
set_option maxRecDepth 100000 in
theorem symMerge_gt (L : LaysGt.n30 P ρ) (enc : α → Value) (lt R : α → α → Bool) (hO : Ord R) (g : Nat) (lb : Array Value) (sf : Nat) (sb : Array Value) (blk off : Nat) (d0 : Array α) (w0 : World)
    (eg : ∀ args w, (callFunc g args).run P w = .ok (.enter g args) w) (hL : LessG P g lb enc lt blk off d0.size w0) (hswap : SwapSwaps P sf sb enc blk off d0.size) (hH0 : Holds enc w0 blk off d0) (hblk0 : blk < w0.heap.size) (hsz : d0.size < 4611686018427387904) (s : Nat)
    (ih : ∀ (d : Array α) (a m b : Nat) (W : World), b - a ≤ s → d.size = d0.size → SW enc w0 blk off d W → a < m → m < b → b ≤ d.size → Srt R a m d → Srt R m b d → Crs lt R a m b d →
      Calls P (ρ.f 30) #[.agg #[.func (.func g) #[] lb, .func (.func sf) #[] sb], .int .i64 a, .int .i64 m, .int .i64 b] W fun e w' => e = .returned (.tuple #[]) ∧ ∃ d', SW enc W blk off d' w' ∧ PermIn a b d d' ∧ Srt R a b d')
    (d : Array α) (a m b : Nat) (W : World) (hle : b - a ≤ s + 1) (hsd : d.size = d0.size) (hW : SW enc w0 blk off d W) (ham : a < m) (hmb : m < b) (hb : b ≤ d.size) (hrl : Srt R a m d) (hrr : Srt R m b d) (hc : Crs lt R a m b d)
    (hA : ¬ m = a + 1) (hBm : ¬ b = m + 1) (mid : Nat) (hmid : (a + b) / 2 = mid) (qm : (mid : Int) < m) :
    Calls P (ρ.f 30) #[.agg #[.func (.func g) #[] lb, .func (.func sf) #[] sb], .int .i64 a, .int .i64 m, .int .i64 b] W fun e w' => e = .returned (.tuple #[]) ∧ ∃ d', SW enc W blk off d' w' ∧ PermIn a b d d' ∧ Srt R a b d' := by
  have mixed := L.mixed; have t0 := L.t0; have a0 := L.a0; have z0 := L.z0; have v0 := L.v0; have t3 := L.t3; have a3 := L.a3; have z3 := L.z3; have v3 := L.v3; have t4 := L.t4; have a4 := L.a4; have z4 := L.z4; have v4 := L.v4; have t26 := L.t26; have a26 := L.a26; have z26 := L.z26; have v26 := L.v26; have t38 := L.t38; have a38 := L.a38; have z38 := L.z38; have v38 := L.v38; have t42 := L.t42; have a42 := L.a42; have z42 := L.z42; have v42 := L.v42; have t47 := L.t47; have a47 := L.a47; have z47 := L.z47; have v47 := L.v47
  have u42 := run_underlying L.t42
  have hs1 := hW.alloc (.cells #[.func (.func g) #[] lb, .func (.func sf) #[] sb] (ρ.t 42))
  have hblk := hW.lt hblk0
  have hH := hW.holds hblk0 hH0 hsd
  have hH1 := holds_alloc (o := (.cells #[.func (.func g) #[] lb, .func (.func sf) #[] sb] (ρ.t 42))) hH hblk
  have hb1 : blk < (W.alloc (.cells #[.func (.func g) #[] lb, .func (.func sf) #[] sb] (ρ.t 42))).heap.size := by simp; omega
  have bx : ∀ (k : Nat) (v : Value), (W.alloc (.cells #[.func (.func g) #[] lb, .func (.func sf) #[] sb] (ρ.t 42))).cell? ⟨W.heap.size, k, none⟩ = some v → ∀ (dk : Array α) wr, SW enc (W.alloc (.cells #[.func (.func g) #[] lb, .func (.func sf) #[] sb] (ρ.t 42))) blk off dk wr → wr.cell? ⟨W.heap.size, k, none⟩ = some v := fun k v h dk wr hs => (swCell hs (by simp) (by omega)).trans h
  have BX0 := Lib.hid (bx 0 (.func (.func g) #[] lb) (by simp))
  have BX1 := Lib.hid (bx 1 (.func (.func sf) #[] sb) (by simp))
  have LS : Hid (∀ (dk : Array α) (wr : World) (i j : Nat), dk.size = d.size → SW enc (W.alloc (.cells #[.func (.func g) #[] lb, .func (.func sf) #[] sb] (ρ.t 42))) blk off dk wr → i < d.size → j < d.size →
      Calls P g (#[.int .i64 i, .int .i64 j] ++ lb) wr fun e w' => e = .returned (.bool (lt dk[i]! dk[j]!)) ∧ SW enc (W.alloc (.cells #[.func (.func g) #[] lb, .func (.func sf) #[] sb] (ρ.t 42))) blk off dk w') :=
    fun dk wr i j h1 h2 h3 h4 => (hL dk wr (swTrans hs1 h2 hblk0 h1) (h1.trans hsd) i j (hsd ▸ h3) (hsd ▸ h4)).mono fun _ w' h => ⟨h.1, by obtain ⟨_, q, os, hq⟩ := h; rw [hq]; exact sw_grow h2 q os⟩
  have S0 := Lib.hid (SW.start hH1)
  have EX : Hid (∀ (dk : Array α) (wr : World) (i j : Nat), dk.size = d.size → SW enc (W.alloc (.cells #[.func (.func g) #[] lb, .func (.func sf) #[] sb] (ρ.t 42))) blk off dk wr → i < d.size → j < d.size →
      (callFunc sf (#[.int .i64 i, .int .i64 j] ++ sb)).run P wr = .ok (.value (.tuple #[])) ((wr.setCell ⟨blk, off + i, none⟩ (enc dk[j]!)).setCell ⟨blk, off + j, none⟩ (enc dk[i]!)) ∧ SW enc (W.alloc (.cells #[.func (.func g) #[] lb, .func (.func sf) #[] sb] (ρ.t 42))) blk off (swp dk i j) ((wr.setCell ⟨blk, off + i, none⟩ (enc dk[j]!)).setCell ⟨blk, off + j, none⟩ (enc dk[i]!))) :=
    fun dk wr i j h1 h2 h3 h4 => ⟨(hsd ▸ hswap) wr dk (h2.holds hb1 hH1 h1) h1 i j h3 h4, h2.swap hb1 i j (h1 ▸ h3) (h1 ▸ h4)⟩
  have HU : Hid (∀ wr, SW enc (W.alloc (.cells #[.func (.func g) #[] lb, .func (.func sf) #[] sb] (ρ.t 42))) blk off d wr → SW enc W blk off d wr) := fun wr h => swUnalloc h hblk
  have e42 : ∀ args w, (callFunc (ρ.f 42) args).run P w = .ok (.enter (ρ.f 42) args) w := enters_of L.f42 (by kernel_rfl) rfl
  have e30 : ∀ args w, (callFunc (ρ.f 30) args).run P w = .ok (.enter (ρ.f 30) args) w := enters_of L.f30 (by kernel_rfl) rfl
  have q0 : ((m : Int) - a == 1) = false := by simp; omega
  have q1 : ((b : Int) - m == 1) = false := by simp; omega
  have hmidI : ((a : Int) + b) / 2 = (mid : Int) := by omega
  have m1 : a < mid := by omega
  have m2 : mid < b := by omega
  have m3 : 2 * mid ≤ a + b := by omega
  have m4 : a + b ≤ 2 * mid + 1 := by omega
  -- a rotation from some world on
  have RO : Hid (∀ (S E : Nat) (wr : World), SW enc (W.alloc (.cells #[.func (.func g) #[] lb, .func (.func sf) #[] sb] (ρ.t 42))) blk off d wr → a ≤ S → S < m → m < E → E ≤ b →
      Calls P (ρ.f 42) #[.agg #[.func (.func g) #[] lb, .func (.func sf) #[] sb], .int .i64 S, .int .i64 m, .int .i64 E] wr fun e w' => e = .returned (.tuple #[]) ∧ SW enc (W.alloc (.cells #[.func (.func g) #[] lb, .func (.func sf) #[] sb] (ρ.t 42))) blk off (rotL d m (m - S) (E - m)) w') :=
    fun S E wr h1 h2 h3 h4 h5 => (rotate_w { L with } enc (.func g) #[] lb sf sb blk off S m E d wr (hsd ▸ hswap) (h1.holds hb1 hH1 rfl) (h1.lt hb1) h3 h4 (by omega) (hsd ▸ hsz)).mono fun _ _ h => ⟨h.1, swTrans h1 h.2 hb1 (rotL_perm d m (m - S) (E - m) (by omega) (by omega) (by omega) (by omega)).1⟩
  have RE : Hid (∀ (D : Array α) (x y z : Nat) (wr : World), D.size = d.size → SW enc (W.alloc (.cells #[.func (.func g) #[] lb, .func (.func sf) #[] sb] (ρ.t 42))) blk off D wr → z - x ≤ s → x < y → y < z → z ≤ d.size → Srt R x y D → Srt R y z D → Crs lt R x y z D →
      Calls P (ρ.f 30) #[.agg #[.func (.func g) #[] lb, .func (.func sf) #[] sb], .int .i64 x, .int .i64 y, .int .i64 z] wr fun e w' => e = .returned (.tuple #[]) ∧ ∃ D', SW enc (W.alloc (.cells #[.func (.func g) #[] lb, .func (.func sf) #[] sb] (ρ.t 42))) blk off D' w' ∧ PermIn x z D D' ∧ Srt R x z D') :=
    fun D x y z wr h1 h2 h3 h4 h5 h6 h7 h8 h9 => (ih D x y z wr h3 (h1.trans hsd) (swTrans hs1 h2 hblk0 h1) h4 h5 (h1 ▸ h6) h7 h8 h9).mono fun _ _ h => ⟨h.1, by obtain ⟨_, D', k1, k2, k3⟩ := h; exact ⟨D', swTrans h2 k1 hb1 k2.1, k2, k3⟩⟩
  have HRL := Lib.hid hrl
  have HRR := Lib.hid hrr
  have HC := Lib.hid hc
  have DONE : Hid (∀ (D : Array α) (wr : World), SW enc (W.alloc (.cells #[.func (.func g) #[] lb, .func (.func sf) #[] sb] (ρ.t 42))) blk off D wr → SW enc W blk off D wr) := fun D wr h => swUnalloc h hblk
  clear bx hH hH1 hb1 hs1 hrl hrr hc hL hswap hW hH0 HU EX ih
  obtain ⟨lo, hi, hlo⟩ : ∃ lo hi : Nat, (lo = mid + m - b ∧ mid < m ∧ hi = mid) ∨ (lo = a ∧ m ≤ mid ∧ hi = m) := by
    rcases Nat.lt_or_ge mid m with h | h
    · exact ⟨_, _, .inl ⟨rfl, h, rfl⟩⟩
    · exact ⟨_, _, .inr ⟨rfl, h, rfl⟩⟩
  have l1 : a ≤ lo := by omega
  have l2 : hi ≤ m := by omega
  have l3 : mid + m - 1 - lo < b := by omega
  have l4 : m + hi ≤ mid + m := by omega
  have l5 : lo ≤ hi := by omega
  have l6 : hi ≤ mid := by omega
  have HUP := Lib.hid (up_mid (n := mid + m) hO HRL.out HRR.out HC.out l1 l2 l3 l4)
  have HLO := Lib.hid hlo
  have HMID := Lib.hid hmid
  clear hlo hmid
  go_enter L.f30, BodyGt.n30_ntmps ρ
  go_wp2
  go_loopw [18, 19] (fun vi vj wr => ∃ i j : Nat, vi = .int .i64 i ∧ vj = .int .i64 j ∧ Hid (Bis (fun t => lt d[mid + m - 1 - t]! d[t]!) lo hi i j) ∧ Hid (SW enc (W.alloc (.cells #[.func (.func g) #[] lb, .func (.func sf) #[] sb] (ρ.t 42))) blk off d wr)) (fun vi vj _ => (intOf vj).toNat - (intOf vi).toNat)
  case atStart => exact ⟨lo, hi, by congr 1; have := HLO.out; omega, by congr 1; have := HLO.out; omega, Bis.start _ l5, S0.out⟩
  case round =>
    obtain ⟨i, j, rfl, rfl, hB, hS⟩ := hrel
    have c0 := BX0.out _ _ hS.out
    have c1 := BX1.out _ _ hS.out
    have k1 := hB.out.li
    have k2 := hB.out.ij
    have k3 := hB.out.jh
    by_cases hij : i < j
    · obtain ⟨n1, n2⟩ := half_lt hij
      obtain ⟨h, hh⟩ : ∃ h, (i + j) / 2 = h := ⟨_, rfl⟩
      have hhI : ((i : Int) + j) / 2 = (h : Int) := by omega
      rw [hh] at n1 n2
      have hl := LS.out d wr (mid + m - 1 - h) h rfl hS.out (by omega) (by omega)
      rw [show ((mid + m - 1 - h : Nat) : Int) = (mid : Int) + m - 1 - h by omega] at hl
      clear hh hS
      cases hlv : lt d[mid + m - 1 - h]! d[h]!
      · rw [hlv] at hl
        have HB := Lib.hid (hB.out.miss HUP.out n1 n2 hlv)
        clear hB hlv
        go_wp2_with (go_at_fn g; refine hl.mono ?_; rintro e w1 ⟨rfl, hS1⟩; have HS1 := Lib.hid hS1; clear hS1)
        go_roundw
        case rel => first | exact ⟨h + 1, j, by go_num, rfl, HB, HS1⟩ | ((repeat apply Exists.intro); exact ⟨⟨h + 1, j, by go_num, rfl, HB, HS1⟩, rfl⟩)
        case measure => simp [intOf]; omega
      · rw [hlv] at hl
        have HB := Lib.hid (hB.out.hit HUP.out n1 n2 hlv)
        clear hB hlv
        go_wp2_with (go_at_fn g; refine hl.mono ?_; rintro e w1 ⟨rfl, hS1⟩; have HS1 := Lib.hid hS1; clear hS1)
        go_roundw
        case rel => first | exact ⟨i, h, rfl, rfl, HB, HS1⟩ | ((repeat apply Exists.intro); exact ⟨⟨i, h, rfl, rfl, HB, HS1⟩, rfl⟩)
        case measure => simp [intOf]; omega
    · obtain rfl : i = j := by omega
      obtain ⟨E, hE⟩ : ∃ E, mid + m - i = E := ⟨_, rfl⟩
      have hEI : (mid : Int) + m - i = (E : Int) := by omega
      have k5 : m ≤ E := by omega
      have k6 : E ≤ b := by have := HLO.out; omega
      have k7 : mid ≤ E := by omega
      have k8 : a ≤ i := by omega
      have HB := hB
      have HE := Lib.hid hE
      clear hB hE k1
      have HW : Hid (SW enc (W.alloc (.cells #[.func (.func g) #[] lb, .func (.func sf) #[] sb] (ρ.t 42))) blk off d wr) := hS
      clear hS c0 c1
      go_upto_region 40 with fail
      go_cut [145] (fun s wx => s = .bool (decide ((i : Int) < m ∧ (m : Int) < E)) ∧ wx = wr)
      case first =>
        by_cases x1 : (i : Int) < m
        · by_cases x2 : (m : Int) < E
          · go_wp2_with fail
            go_meet
            case rel => exact ⟨congrArg Value.bool (decide_eq_true (by omega)).symm, rfl⟩
          · go_wp2_with fail
            go_meet
            case rel => exact ⟨congrArg Value.bool (decide_eq_false (by omega)).symm, rfl⟩
        · go_wp2_with fail
          go_meet
          case rel => exact ⟨congrArg Value.bool (decide_eq_false (by omega)).symm, rfl⟩
      case rest =>
        obtain ⟨rfl, rfl⟩ := hcut
        go_upto_if 145 with fail
        go_cut [] (fun wx => ∃ D : Array α, Hid (D.size = d.size ∧ PermIn a b d D ∧ (∀ t, D[t]! = rotF (fun t => d[t]!) i m E t) ∧ SW enc (W.alloc (.cells #[.func (.func g) #[] lb, .func (.func sf) #[] sb] (ρ.t 42))) blk off D wx))
        case first =>
          by_cases x : (i : Int) < m ∧ (m : Int) < E
          · have hc := RO.out i E wc HW.out k8 (by omega) (by omega) k6
            have HCC := Lib.hid hc
            have c0 := BX0.out _ _ HW.out
            have c1 := BX1.out _ _ HW.out
            clear hc
            go_wp2_with (go_at_fn (ρ.f 42); refine HCC.out.mono ?_; rintro e w1 ⟨rfl, hS1⟩; have HS1 := Lib.hid hS1; clear hS1)
            go_meet
            case rel =>
              have p := rotL_perm d m (m - i) (E - m) (by omega) (by omega) (by omega) (by omega)
              refine ⟨_, p.1, permIn_mono _ _ _ _ _ _ (by omega) (by omega) hb p, fun t => ?_, HS1.out⟩
              rw [rotL_get d m (m - i) (E - m) (by omega) (by omega) (by omega) (by omega)]
              congr 1 <;> omega
          · go_wp2_with fail
            go_meet
            case rel => exact ⟨d, rfl, permIn_refl _ _ _, fun t => (rotF_id _ (by omega) (by omega) (by omega)).symm, HW.out⟩
        case rest =>
          clear HW
          rename World => wq
          obtain ⟨D, hD⟩ := hcut
          have hal : Halves lt R a i mid E b D := by
            have h9 := halves (S := i) (mid := mid) (D := D) hO HRL.out HRR.out HC.out ham hmb (by omega) (by omega) HB.out HLO.out (by rcases HLO.out with h | h; exact .inr h.1; exact .inl (by omega)) l1 (by rw [HE.out]; exact k6) (fun t => by rw [HE.out]; exact hD.out.2.2.1 t)
            rw [HE.out] at h9
            exact h9
          have HAL := Lib.hid hal
          clear hal
          go_upto_region 42 with fail
          go_cut [158] (fun s wx => s = .bool (decide ((a : Int) < i ∧ (i : Int) < mid)) ∧ wx = wq)
          case first =>
            by_cases x1 : (a : Int) < i
            · by_cases x2 : (i : Int) < mid
              · go_wp2_with fail
                go_meet
                case rel => exact ⟨congrArg Value.bool (decide_eq_true (by omega)).symm, rfl⟩
              · go_wp2_with fail
                go_meet
                case rel => exact ⟨congrArg Value.bool (decide_eq_false (by omega)).symm, rfl⟩
            · go_wp2_with fail
              go_meet
              case rel => exact ⟨congrArg Value.bool (decide_eq_false (by omega)).symm, rfl⟩
          case rest =>
            obtain ⟨rfl, rfl⟩ := hcut
            go_upto_if 158 with fail
            go_cut [] (fun wx => ∃ D1 : Array α, Hid (D1.size = d.size ∧ PermIn a mid D D1 ∧ Srt R a mid D1 ∧ SW enc (W.alloc (.cells #[.func (.func g) #[] lb, .func (.func sf) #[] sb] (ρ.t 42))) blk off D1 wx))
            case first =>
              by_cases x : (a : Int) < i ∧ (i : Int) < mid
              · have hc := RE.out D a i mid wc hD.out.1 hD.out.2.2.2 (by omega) (by omega) (by omega) (by omega) HAL.out.s1 HAL.out.s2 HAL.out.c1
                have HCC := Lib.hid hc
                have c0 := BX0.out _ _ hD.out.2.2.2
                have c1 := BX1.out _ _ hD.out.2.2.2
                clear hc
                go_wp2_with (go_at_fn (ρ.f 30); refine HCC.out.mono ?_; rintro e w1 ⟨rfl, D1, hS1, hP1, hR1⟩; have HS1 := Lib.hid (And.intro hS1 (And.intro hP1 hR1)); clear hS1 hP1 hR1)
                go_meet
                case rel => exact ⟨D1, HS1.out.2.1.1.trans hD.out.1, HS1.out.2.1, HS1.out.2.2, HS1.out.1⟩
              · go_wp2_with fail
                go_meet
                case rel => exact ⟨D, hD.out.1, permIn_refl _ _ _, halves_low HAL.out (by omega) (by omega) (by omega), hD.out.2.2.2⟩
            case rest =>
              rename World => wq2
              obtain ⟨D1, hD1⟩ := hcut
              go_upto_region 44 with fail
              go_cut [171] (fun s wx => s = .bool (decide ((mid : Int) < E ∧ (E : Int) < b)) ∧ wx = wq2)
              case first =>
                by_cases x1 : (mid : Int) < E
                · by_cases x2 : (E : Int) < b
                  · go_wp2_with fail
                    go_meet
                    case rel => exact ⟨congrArg Value.bool (decide_eq_true (by omega)).symm, rfl⟩
                  · go_wp2_with fail
                    go_meet
                    case rel => exact ⟨congrArg Value.bool (decide_eq_false (by omega)).symm, rfl⟩
                · go_wp2_with fail
                  go_meet
                  case rel => exact ⟨congrArg Value.bool (decide_eq_false (by omega)).symm, rfl⟩
              case rest =>
                obtain ⟨rfl, rfl⟩ := hcut
                by_cases x : (mid : Int) < E ∧ (E : Int) < b
                · have hc := RE.out D1 mid E b wc hD1.out.1 hD1.out.2.2.2 (by omega) (by omega) (by omega) hb (HAL.out.s3.keep hD1.out.2.1 (.inl (Nat.le_refl _))) (HAL.out.s4.keep hD1.out.2.1 (.inl k7)) (HAL.out.c2.keep hD1.out.2.1 (.inl (Nat.le_refl _)))
                  have HCC := Lib.hid hc
                  have c0 := BX0.out _ _ hD1.out.2.2.2
                  have c1 := BX1.out _ _ hD1.out.2.2.2
                  clear hc
                  go_wp2_with (go_at_fn (ρ.f 30); refine HCC.out.mono ?_; rintro e w1 ⟨rfl, D2, hS1, hP1, hR1⟩; have HS1 := Lib.hid (And.intro hS1 (And.intro hP1 hR1)); clear hS1 hP1 hR1)
                  go_end0
                  have j := HAL.out.join (by omega) (by omega) (by have := hD.out.1; omega) hD1.out.2.1 hD1.out.2.2.1 HS1.out.2.1 HS1.out.2.2
                  exact ⟨rfl, D2, DONE.out _ _ HS1.out.1, permIn_trans _ _ _ _ _ hD.out.2.1 j.1, j.2⟩
                · go_wp2_with fail
                  go_end0
                  have j := HAL.out.join (by omega) (by omega) (by have := hD.out.1; omega) hD1.out.2.1 hD1.out.2.2.1 (permIn_refl _ _ _) ((halves_high HAL.out (by omega) k7 k6).keep hD1.out.2.1 (.inl (Nat.le_refl _)))
                  exact ⟨rfl, D1, DONE.out _ _ hD1.out.2.2.2, permIn_trans _ _ _ _ _ hD.out.2.1 j.1, j.2⟩

set_option maxHeartbeats 16000000 in
set_option maxRecDepth 100000 in
theorem symMerge_le (L : LaysGt.n30 P ρ) (enc : α → Value) (lt R : α → α → Bool) (hO : Ord R) (g : Nat) (lb : Array Value) (sf : Nat) (sb : Array Value) (blk off : Nat) (d0 : Array α) (w0 : World)
    (eg : ∀ args w, (callFunc g args).run P w = .ok (.enter g args) w) (hL : LessG P g lb enc lt blk off d0.size w0) (hswap : SwapSwaps P sf sb enc blk off d0.size) (hH0 : Holds enc w0 blk off d0) (hblk0 : blk < w0.heap.size) (hsz : d0.size < 4611686018427387904) (s : Nat)
    (ih : ∀ (d : Array α) (a m b : Nat) (W : World), b - a ≤ s → d.size = d0.size → SW enc w0 blk off d W → a < m → m < b → b ≤ d.size → Srt R a m d → Srt R m b d → Crs lt R a m b d →
      Calls P (ρ.f 30) #[.agg #[.func (.func g) #[] lb, .func (.func sf) #[] sb], .int .i64 a, .int .i64 m, .int .i64 b] W fun e w' => e = .returned (.tuple #[]) ∧ ∃ d', SW enc W blk off d' w' ∧ PermIn a b d d' ∧ Srt R a b d')
    (d : Array α) (a m b : Nat) (W : World) (hle : b - a ≤ s + 1) (hsd : d.size = d0.size) (hW : SW enc w0 blk off d W) (ham : a < m) (hmb : m < b) (hb : b ≤ d.size) (hrl : Srt R a m d) (hrr : Srt R m b d) (hc : Crs lt R a m b d)
    (hA : ¬ m = a + 1) (hBm : ¬ b = m + 1) (mid : Nat) (hmid : (a + b) / 2 = mid) (qm : ¬ (mid : Int) < m) :
    Calls P (ρ.f 30) #[.agg #[.func (.func g) #[] lb, .func (.func sf) #[] sb], .int .i64 a, .int .i64 m, .int .i64 b] W fun e w' => e = .returned (.tuple #[]) ∧ ∃ d', SW enc W blk off d' w' ∧ PermIn a b d d' ∧ Srt R a b d' := by
  have mixed := L.mixed; have t0 := L.t0; have a0 := L.a0; have z0 := L.z0; have v0 := L.v0; have t3 := L.t3; have a3 := L.a3; have z3 := L.z3; have v3 := L.v3; have t4 := L.t4; have a4 := L.a4; have z4 := L.z4; have v4 := L.v4; have t26 := L.t26; have a26 := L.a26; have z26 := L.z26; have v26 := L.v26; have t38 := L.t38; have a38 := L.a38; have z38 := L.z38; have v38 := L.v38; have t42 := L.t42; have a42 := L.a42; have z42 := L.z42; have v42 := L.v42; have t47 := L.t47; have a47 := L.a47; have z47 := L.z47; have v47 := L.v47
  have u42 := run_underlying L.t42
  have hs1 := hW.alloc (.cells #[.func (.func g) #[] lb, .func (.func sf) #[] sb] (ρ.t 42))
  have hblk := hW.lt hblk0
  have hH := hW.holds hblk0 hH0 hsd
  have hH1 := holds_alloc (o := (.cells #[.func (.func g) #[] lb, .func (.func sf) #[] sb] (ρ.t 42))) hH hblk
  have hb1 : blk < (W.alloc (.cells #[.func (.func g) #[] lb, .func (.func sf) #[] sb] (ρ.t 42))).heap.size := by simp; omega
  have bx : ∀ (k : Nat) (v : Value), (W.alloc (.cells #[.func (.func g) #[] lb, .func (.func sf) #[] sb] (ρ.t 42))).cell? ⟨W.heap.size, k, none⟩ = some v → ∀ (dk : Array α) wr, SW enc (W.alloc (.cells #[.func (.func g) #[] lb, .func (.func sf) #[] sb] (ρ.t 42))) blk off dk wr → wr.cell? ⟨W.heap.size, k, none⟩ = some v := fun k v h dk wr hs => (swCell hs (by simp) (by omega)).trans h
  have BX0 := Lib.hid (bx 0 (.func (.func g) #[] lb) (by simp))
  have BX1 := Lib.hid (bx 1 (.func (.func sf) #[] sb) (by simp))
  have LS : Hid (∀ (dk : Array α) (wr : World) (i j : Nat), dk.size = d.size → SW enc (W.alloc (.cells #[.func (.func g) #[] lb, .func (.func sf) #[] sb] (ρ.t 42))) blk off dk wr → i < d.size → j < d.size →
      Calls P g (#[.int .i64 i, .int .i64 j] ++ lb) wr fun e w' => e = .returned (.bool (lt dk[i]! dk[j]!)) ∧ SW enc (W.alloc (.cells #[.func (.func g) #[] lb, .func (.func sf) #[] sb] (ρ.t 42))) blk off dk w') :=
    fun dk wr i j h1 h2 h3 h4 => (hL dk wr (swTrans hs1 h2 hblk0 h1) (h1.trans hsd) i j (hsd ▸ h3) (hsd ▸ h4)).mono fun _ w' h => ⟨h.1, by obtain ⟨_, q, os, hq⟩ := h; rw [hq]; exact sw_grow h2 q os⟩
  have S0 := Lib.hid (SW.start hH1)
  have EX : Hid (∀ (dk : Array α) (wr : World) (i j : Nat), dk.size = d.size → SW enc (W.alloc (.cells #[.func (.func g) #[] lb, .func (.func sf) #[] sb] (ρ.t 42))) blk off dk wr → i < d.size → j < d.size →
      (callFunc sf (#[.int .i64 i, .int .i64 j] ++ sb)).run P wr = .ok (.value (.tuple #[])) ((wr.setCell ⟨blk, off + i, none⟩ (enc dk[j]!)).setCell ⟨blk, off + j, none⟩ (enc dk[i]!)) ∧ SW enc (W.alloc (.cells #[.func (.func g) #[] lb, .func (.func sf) #[] sb] (ρ.t 42))) blk off (swp dk i j) ((wr.setCell ⟨blk, off + i, none⟩ (enc dk[j]!)).setCell ⟨blk, off + j, none⟩ (enc dk[i]!))) :=
    fun dk wr i j h1 h2 h3 h4 => ⟨(hsd ▸ hswap) wr dk (h2.holds hb1 hH1 h1) h1 i j h3 h4, h2.swap hb1 i j (h1 ▸ h3) (h1 ▸ h4)⟩
  have HU : Hid (∀ wr, SW enc (W.alloc (.cells #[.func (.func g) #[] lb, .func (.func sf) #[] sb] (ρ.t 42))) blk off d wr → SW enc W blk off d wr) := fun wr h => swUnalloc h hblk
  have e42 : ∀ args w, (callFunc (ρ.f 42) args).run P w = .ok (.enter (ρ.f 42) args) w := enters_of L.f42 (by kernel_rfl) rfl
  have e30 : ∀ args w, (callFunc (ρ.f 30) args).run P w = .ok (.enter (ρ.f 30) args) w := enters_of L.f30 (by kernel_rfl) rfl
  have q0 : ((m : Int) - a == 1) = false := by simp; omega
  have q1 : ((b : Int) - m == 1) = false := by simp; omega
  have hmidI : ((a : Int) + b) / 2 = (mid : Int) := by omega
  have m1 : a < mid := by omega
  have m2 : mid < b := by omega
  have m3 : 2 * mid ≤ a + b := by omega
  have m4 : a + b ≤ 2 * mid + 1 := by omega
  -- a rotation from some world on
  have RO : Hid (∀ (S E : Nat) (wr : World), SW enc (W.alloc (.cells #[.func (.func g) #[] lb, .func (.func sf) #[] sb] (ρ.t 42))) blk off d wr → a ≤ S → S < m → m < E → E ≤ b →
      Calls P (ρ.f 42) #[.agg #[.func (.func g) #[] lb, .func (.func sf) #[] sb], .int .i64 S, .int .i64 m, .int .i64 E] wr fun e w' => e = .returned (.tuple #[]) ∧ SW enc (W.alloc (.cells #[.func (.func g) #[] lb, .func (.func sf) #[] sb] (ρ.t 42))) blk off (rotL d m (m - S) (E - m)) w') :=
    fun S E wr h1 h2 h3 h4 h5 => (rotate_w { L with } enc (.func g) #[] lb sf sb blk off S m E d wr (hsd ▸ hswap) (h1.holds hb1 hH1 rfl) (h1.lt hb1) h3 h4 (by omega) (hsd ▸ hsz)).mono fun _ _ h => ⟨h.1, swTrans h1 h.2 hb1 (rotL_perm d m (m - S) (E - m) (by omega) (by omega) (by omega) (by omega)).1⟩
  have RE : Hid (∀ (D : Array α) (x y z : Nat) (wr : World), D.size = d.size → SW enc (W.alloc (.cells #[.func (.func g) #[] lb, .func (.func sf) #[] sb] (ρ.t 42))) blk off D wr → z - x ≤ s → x < y → y < z → z ≤ d.size → Srt R x y D → Srt R y z D → Crs lt R x y z D →
      Calls P (ρ.f 30) #[.agg #[.func (.func g) #[] lb, .func (.func sf) #[] sb], .int .i64 x, .int .i64 y, .int .i64 z] wr fun e w' => e = .returned (.tuple #[]) ∧ ∃ D', SW enc (W.alloc (.cells #[.func (.func g) #[] lb, .func (.func sf) #[] sb] (ρ.t 42))) blk off D' w' ∧ PermIn x z D D' ∧ Srt R x z D') :=
    fun D x y z wr h1 h2 h3 h4 h5 h6 h7 h8 h9 => (ih D x y z wr h3 (h1.trans hsd) (swTrans hs1 h2 hblk0 h1) h4 h5 (h1 ▸ h6) h7 h8 h9).mono fun _ _ h => ⟨h.1, by obtain ⟨_, D', k1, k2, k3⟩ := h; exact ⟨D', swTrans h2 k1 hb1 k2.1, k2, k3⟩⟩
  have HRL := Lib.hid hrl
  have HRR := Lib.hid hrr
  have HC := Lib.hid hc
  have DONE : Hid (∀ (D : Array α) (wr : World), SW enc (W.alloc (.cells #[.func (.func g) #[] lb, .func (.func sf) #[] sb] (ρ.t 42))) blk off D wr → SW enc W blk off D wr) := fun D wr h => swUnalloc h hblk
  clear bx hH hH1 hb1 hs1 hrl hrr hc hL hswap hW hH0 HU EX ih
  obtain ⟨lo, hi, hlo⟩ : ∃ lo hi : Nat, (lo = mid + m - b ∧ mid < m ∧ hi = mid) ∨ (lo = a ∧ m ≤ mid ∧ hi = m) := by
    rcases Nat.lt_or_ge mid m with h | h
    · exact ⟨_, _, .inl ⟨rfl, h, rfl⟩⟩
    · exact ⟨_, _, .inr ⟨rfl, h, rfl⟩⟩
  have l1 : a ≤ lo := by omega
  have l2 : hi ≤ m := by omega
  have l3 : mid + m - 1 - lo < b := by omega
  have l4 : m + hi ≤ mid + m := by omega
  have l5 : lo ≤ hi := by omega
  have l6 : hi ≤ mid := by omega
  have HUP := Lib.hid (up_mid (n := mid + m) hO HRL.out HRR.out HC.out l1 l2 l3 l4)
  have HLO := Lib.hid hlo
  have HMID := Lib.hid hmid
  clear hlo hmid
  go_enter L.f30, BodyGt.n30_ntmps ρ
  go_wp2
  go_loopw [18, 19] (fun vi vj wr => ∃ i j : Nat, vi = .int .i64 i ∧ vj = .int .i64 j ∧ Hid (Bis (fun t => lt d[mid + m - 1 - t]! d[t]!) lo hi i j) ∧ Hid (SW enc (W.alloc (.cells #[.func (.func g) #[] lb, .func (.func sf) #[] sb] (ρ.t 42))) blk off d wr)) (fun vi vj _ => (intOf vj).toNat - (intOf vi).toNat)
  case atStart => exact ⟨lo, hi, by congr 1; have := HLO.out; omega, by congr 1; have := HLO.out; omega, Bis.start _ l5, S0.out⟩
  case round =>
    obtain ⟨i, j, rfl, rfl, hB, hS⟩ := hrel
    have c0 := BX0.out _ _ hS.out
    have c1 := BX1.out _ _ hS.out
    have k1 := hB.out.li
    have k2 := hB.out.ij
    have k3 := hB.out.jh
    by_cases hij : i < j
    · obtain ⟨n1, n2⟩ := half_lt hij
      obtain ⟨h, hh⟩ : ∃ h, (i + j) / 2 = h := ⟨_, rfl⟩
      have hhI : ((i : Int) + j) / 2 = (h : Int) := by omega
      rw [hh] at n1 n2
      have hl := LS.out d wr (mid + m - 1 - h) h rfl hS.out (by omega) (by omega)
      rw [show ((mid + m - 1 - h : Nat) : Int) = (mid : Int) + m - 1 - h by omega] at hl
      clear hh hS
      cases hlv : lt d[mid + m - 1 - h]! d[h]!
      · rw [hlv] at hl
        have HB := Lib.hid (hB.out.miss HUP.out n1 n2 hlv)
        clear hB hlv
        go_wp2_with (go_at_fn g; refine hl.mono ?_; rintro e w1 ⟨rfl, hS1⟩; have HS1 := Lib.hid hS1; clear hS1)
        go_roundw
        case rel => first | exact ⟨h + 1, j, by go_num, rfl, HB, HS1⟩ | ((repeat apply Exists.intro); exact ⟨⟨h + 1, j, by go_num, rfl, HB, HS1⟩, rfl⟩)
        case measure => simp [intOf]; omega
      · rw [hlv] at hl
        have HB := Lib.hid (hB.out.hit HUP.out n1 n2 hlv)
        clear hB hlv
        go_wp2_with (go_at_fn g; refine hl.mono ?_; rintro e w1 ⟨rfl, hS1⟩; have HS1 := Lib.hid hS1; clear hS1)
        go_roundw
        case rel => first | exact ⟨i, h, rfl, rfl, HB, HS1⟩ | ((repeat apply Exists.intro); exact ⟨⟨i, h, rfl, rfl, HB, HS1⟩, rfl⟩)
        case measure => simp [intOf]; omega
    · obtain rfl : i = j := by omega
      obtain ⟨E, hE⟩ : ∃ E, mid + m - i = E := ⟨_, rfl⟩
      have hEI : (mid : Int) + m - i = (E : Int) := by omega
      have k5 : m ≤ E := by omega
      have k6 : E ≤ b := by have := HLO.out; omega
      have k7 : mid ≤ E := by omega
      have k8 : a ≤ i := by omega
      have HB := hB
      have HE := Lib.hid hE
      clear hB hE k1
      have HW : Hid (SW enc (W.alloc (.cells #[.func (.func g) #[] lb, .func (.func sf) #[] sb] (ρ.t 42))) blk off d wr) := hS
      clear hS c0 c1
      go_upto_region 40 with fail
      go_cut [145] (fun s wx => s = .bool (decide ((i : Int) < m ∧ (m : Int) < E)) ∧ wx = wr)
      case first =>
        by_cases x1 : (i : Int) < m
        · by_cases x2 : (m : Int) < E
          · go_wp2_with fail
            go_meet
            case rel => exact ⟨congrArg Value.bool (decide_eq_true (by omega)).symm, rfl⟩
          · go_wp2_with fail
            go_meet
            case rel => exact ⟨congrArg Value.bool (decide_eq_false (by omega)).symm, rfl⟩
        · go_wp2_with fail
          go_meet
          case rel => exact ⟨congrArg Value.bool (decide_eq_false (by omega)).symm, rfl⟩
      case rest =>
        obtain ⟨rfl, rfl⟩ := hcut
        go_upto_if 145 with fail
        go_cut [] (fun wx => ∃ D : Array α, Hid (D.size = d.size ∧ PermIn a b d D ∧ (∀ t, D[t]! = rotF (fun t => d[t]!) i m E t) ∧ SW enc (W.alloc (.cells #[.func (.func g) #[] lb, .func (.func sf) #[] sb] (ρ.t 42))) blk off D wx))
        case first =>
          by_cases x : (i : Int) < m ∧ (m : Int) < E
          · have hc := RO.out i E wc HW.out k8 (by omega) (by omega) k6
            have HCC := Lib.hid hc
            have c0 := BX0.out _ _ HW.out
            have c1 := BX1.out _ _ HW.out
            clear hc
            go_wp2_with (go_at_fn (ρ.f 42); refine HCC.out.mono ?_; rintro e w1 ⟨rfl, hS1⟩; have HS1 := Lib.hid hS1; clear hS1)
            go_meet
            case rel =>
              have p := rotL_perm d m (m - i) (E - m) (by omega) (by omega) (by omega) (by omega)
              refine ⟨_, p.1, permIn_mono _ _ _ _ _ _ (by omega) (by omega) hb p, fun t => ?_, HS1.out⟩
              rw [rotL_get d m (m - i) (E - m) (by omega) (by omega) (by omega) (by omega)]
              congr 1 <;> omega
          · go_wp2_with fail
            go_meet
            case rel => exact ⟨d, rfl, permIn_refl _ _ _, fun t => (rotF_id _ (by omega) (by omega) (by omega)).symm, HW.out⟩
        case rest =>
          clear HW
          rename World => wq
          obtain ⟨D, hD⟩ := hcut
          have hal : Halves lt R a i mid E b D := by
            have h9 := halves (S := i) (mid := mid) (D := D) hO HRL.out HRR.out HC.out ham hmb (by omega) (by omega) HB.out HLO.out (by rcases HLO.out with h | h; exact .inr h.1; exact .inl (by omega)) l1 (by rw [HE.out]; exact k6) (fun t => by rw [HE.out]; exact hD.out.2.2.1 t)
            rw [HE.out] at h9
            exact h9
          have HAL := Lib.hid hal
          clear hal
          go_upto_region 42 with fail
          go_cut [158] (fun s wx => s = .bool (decide ((a : Int) < i ∧ (i : Int) < mid)) ∧ wx = wq)
          case first =>
            by_cases x1 : (a : Int) < i
            · by_cases x2 : (i : Int) < mid
              · go_wp2_with fail
                go_meet
                case rel => exact ⟨congrArg Value.bool (decide_eq_true (by omega)).symm, rfl⟩
              · go_wp2_with fail
                go_meet
                case rel => exact ⟨congrArg Value.bool (decide_eq_false (by omega)).symm, rfl⟩
            · go_wp2_with fail
              go_meet
              case rel => exact ⟨congrArg Value.bool (decide_eq_false (by omega)).symm, rfl⟩
          case rest =>
            obtain ⟨rfl, rfl⟩ := hcut
            go_upto_if 158 with fail
            go_cut [] (fun wx => ∃ D1 : Array α, Hid (D1.size = d.size ∧ PermIn a mid D D1 ∧ Srt R a mid D1 ∧ SW enc (W.alloc (.cells #[.func (.func g) #[] lb, .func (.func sf) #[] sb] (ρ.t 42))) blk off D1 wx))
            case first =>
              by_cases x : (a : Int) < i ∧ (i : Int) < mid
              · have hc := RE.out D a i mid wc hD.out.1 hD.out.2.2.2 (by omega) (by omega) (by omega) (by omega) HAL.out.s1 HAL.out.s2 HAL.out.c1
                have HCC := Lib.hid hc
                have c0 := BX0.out _ _ hD.out.2.2.2
                have c1 := BX1.out _ _ hD.out.2.2.2
                clear hc
                go_wp2_with (go_at_fn (ρ.f 30); refine HCC.out.mono ?_; rintro e w1 ⟨rfl, D1, hS1, hP1, hR1⟩; have HS1 := Lib.hid (And.intro hS1 (And.intro hP1 hR1)); clear hS1 hP1 hR1)
                go_meet
                case rel => exact ⟨D1, HS1.out.2.1.1.trans hD.out.1, HS1.out.2.1, HS1.out.2.2, HS1.out.1⟩
              · go_wp2_with fail
                go_meet
                case rel => exact ⟨D, hD.out.1, permIn_refl _ _ _, halves_low HAL.out (by omega) (by omega) (by omega), hD.out.2.2.2⟩
            case rest =>
              rename World => wq2
              obtain ⟨D1, hD1⟩ := hcut
              go_upto_region 44 with fail
              go_cut [171] (fun s wx => s = .bool (decide ((mid : Int) < E ∧ (E : Int) < b)) ∧ wx = wq2)
              case first =>
                by_cases x1 : (mid : Int) < E
                · by_cases x2 : (E : Int) < b
                  · go_wp2_with fail
                    go_meet
                    case rel => exact ⟨congrArg Value.bool (decide_eq_true (by omega)).symm, rfl⟩
                  · go_wp2_with fail
                    go_meet
                    case rel => exact ⟨congrArg Value.bool (decide_eq_false (by omega)).symm, rfl⟩
                · go_wp2_with fail
                  go_meet
                  case rel => exact ⟨congrArg Value.bool (decide_eq_false (by omega)).symm, rfl⟩
              case rest =>
                obtain ⟨rfl, rfl⟩ := hcut
                by_cases x : (mid : Int) < E ∧ (E : Int) < b
                · have hc := RE.out D1 mid E b wc hD1.out.1 hD1.out.2.2.2 (by omega) (by omega) (by omega) hb (HAL.out.s3.keep hD1.out.2.1 (.inl (Nat.le_refl _))) (HAL.out.s4.keep hD1.out.2.1 (.inl k7)) (HAL.out.c2.keep hD1.out.2.1 (.inl (Nat.le_refl _)))
                  have HCC := Lib.hid hc
                  have c0 := BX0.out _ _ hD1.out.2.2.2
                  have c1 := BX1.out _ _ hD1.out.2.2.2
                  clear hc
                  go_wp2_with (go_at_fn (ρ.f 30); refine HCC.out.mono ?_; rintro e w1 ⟨rfl, D2, hS1, hP1, hR1⟩; have HS1 := Lib.hid (And.intro hS1 (And.intro hP1 hR1)); clear hS1 hP1 hR1)
                  go_end0
                  have j := HAL.out.join (by omega) (by omega) (by have := hD.out.1; omega) hD1.out.2.1 hD1.out.2.2.1 HS1.out.2.1 HS1.out.2.2
                  exact ⟨rfl, D2, DONE.out _ _ HS1.out.1, permIn_trans _ _ _ _ _ hD.out.2.1 j.1, j.2⟩
                · go_wp2_with fail
                  go_end0
                  have j := HAL.out.join (by omega) (by omega) (by have := hD.out.1; omega) hD1.out.2.1 hD1.out.2.2.1 (permIn_refl _ _ _) ((halves_high HAL.out (by omega) k7 k6).keep hD1.out.2.1 (.inl (Nat.le_refl _)))
                  exact ⟨rfl, D1, DONE.out _ _ hD1.out.2.2.2, permIn_trans _ _ _ _ _ hD.out.2.1 j.1, j.2⟩

theorem symMerge_w (L : LaysGt.n30 P ρ) (enc : α → Value) (lt R : α → α → Bool) (hO : Ord R) (g : Nat) (lb : Array Value) (sf : Nat) (sb : Array Value) (blk off : Nat) (d0 : Array α) (w0 : World)
    (eg : ∀ args w, (callFunc g args).run P w = .ok (.enter g args) w) (hL : LessG P g lb enc lt blk off d0.size w0) (hswap : SwapSwaps P sf sb enc blk off d0.size) (hH0 : Holds enc w0 blk off d0) (hblk0 : blk < w0.heap.size) (hsz : d0.size < 4611686018427387904) (s : Nat) :
    ∀ (d : Array α) (a m b : Nat) (W : World), b - a ≤ s → d.size = d0.size → SW enc w0 blk off d W → a < m → m < b → b ≤ d.size → Srt R a m d → Srt R m b d → Crs lt R a m b d →
      Calls P (ρ.f 30) #[.agg #[.func (.func g) #[] lb, .func (.func sf) #[] sb], .int .i64 a, .int .i64 m, .int .i64 b] W fun e w' => e = .returned (.tuple #[]) ∧ ∃ d', SW enc W blk off d' w' ∧ PermIn a b d d' ∧ Srt R a b d' := by
  induction s with
  | zero => intro d a m b W h1; omega
  | succ s ih =>
  intro d a m b W hle hsd hW ham hmb hb hrl hrr hc
  by_cases hA : m = a + 1
  · subst hA
    have := merge_left L enc lt R hO g lb sf sb blk off d0 w0 eg hL hswap hH0 hblk0 hsz d hsd a b W hW hmb hb hrr hc
    simpa using this
  by_cases hBm : b = m + 1
  · subst hBm
    have := merge_right L enc lt R hO g lb sf sb blk off d0 w0 eg hL hswap hH0 hblk0 hsz d hsd a m W hW (by omega) hb hrl hc
    simpa using this
  by_cases qm : (((a + b) / 2 : Nat) : Int) < m
  · exact symMerge_gt L enc lt R hO g lb sf sb blk off d0 w0 eg hL hswap hH0 hblk0 hsz s ih d a m b W hle hsd hW ham hmb hb hrl hrr hc hA hBm _ rfl qm
  · exact symMerge_le L enc lt R hO g lb sf sb blk off d0 w0 eg hL hswap hH0 hblk0 hsz s ih d a m b W hle hsd hW ham hmb hb hrl hrr hc hA hBm _ rfl qm

end
end Go.Proofs.Ytjigkogopmebeaa
