/- Contracts: a layout and a text of its letters (the reference). -/
import Derived.Test.YtgigdipbfcffiaaCp
import Derived.Test.YtgigdipbfcffiaaBy
import Derived.Test.YtgigdipbfcffiaaAq
import Derived.Test.YtgigdipbfcffiaaAt
import Derived.RegionTactic
namespace Go.Proofs.Ytgigdipbfcffiaa
open Go.RowKit Go.BigFrame
attribute [local go_sem] sub_cell sub_frozen drewN_setCell

theorem srcBelow {w w' : World} {g n c t base : Nat} {A : Option Addr} (h : Src w g A n c t) (hb : Below base w w') (hg : g < base) (hA : ∀ b o, A = some ⟨b, o, none⟩ → 0 < n → b < base) : Src w' g A n c t := by
  obtain ⟨a, sd, h1, h2, h3, h4⟩ := h
  refine ⟨a, sd, (hb.block g hg).trans h1, h2, h3, ?_⟩
  rcases Nat.eq_zero_or_pos n with h0 | h0
  · exact .inl h0
  · exact Bys.keep h4 hb.size fun b o e => hb.block b (hA b o e h0)
set_option maxHeartbeats 400000 in
theorem c_l00MinP (a b : Int) (w : World) :
    Calls Try.prog 44 #[.int .i64 a, .int .i64 b] w fun e w' => e = .returned (.int .i64 (if a < b then a else b)) ∧ w = w' := by
  by_cases h : a < b
  all_goals
    go_enter Try.func44, Try.ntmps44
    go_wp2_with fail
    go_ret
    simp [*]
set_option maxHeartbeats 2000000 in
theorem c_text (g : Nat) (A : Option Addr) (n c t b : Nat) (s0 s1 s2 s3 : ByteArray) (T : TypeId) (w : World) (h : Src w g A n c t) (ht : t ≤ 1000000000) (hn : n ≤ 1099511627776)
    (hb : w.heap[b]? = some (.cells #[.string s0, .string s1, .string s2, .string s3] T)) (hbg : b ≠ g) :
    Calls Try.prog 43 #[.pointer (some ⟨g, 0, none⟩), .slice (some ⟨b, 0, none⟩) 4 4] w fun e w' => ∃ s, e = .returned (.string s) ∧ (s = s0 ∨ s = s1 ∨ s = s2 ∨ s = s3) ∧ Src w' g A n c (t + 2) ∧ w.grownBy w' (some g) := by
  have H := Lib.hid h
  have HB := Lib.hid hb
  have hlt := (Array.getElem?_eq_some_iff.1 hb).1
  clear h hb
  go_enter Try.func43, Try.ntmps43
  go_wp2_with fail
  refine (c_pick g A n c t 4 _ H.out ht hn (by omega) (by omega)).mono ?_
  rintro r_ w1 ⟨x, rfl, hx0, hx1, hS, hG⟩
  have hH : w1.heap[b]? = some (.cells #[.string s0, .string s1, .string s2, .string s3] T) := (hG.block b hlt (by simp; exact hbg)).trans HB.out
  have k0 : w1.cell? ⟨b, 0, none⟩ = some (.string s0) := by simp [World.cell?, hH]
  have k1 : w1.cell? ⟨b, 1, none⟩ = some (.string s1) := by simp [World.cell?, hH]
  have k2 : w1.cell? ⟨b, 2, none⟩ = some (.string s2) := by simp [World.cell?, hH]
  have k3 : w1.cell? ⟨b, 3, none⟩ = some (.string s3) := by simp [World.cell?, hH]
  have HS := Lib.hid hS
  have HG := Lib.hid hG
  clear hS hG hH
  obtain ⟨m, rfl⟩ : ∃ m : Nat, x = m := ⟨x.toNat, by omega⟩
  have hm : m < 4 := by omega
  rcases m with _ | _ | _ | _ | m
  · go_wp2_with fail
    go_returns
    exact ⟨_, rfl, .inl rfl, HS.out, HG.out⟩
  · go_wp2_with fail
    go_returns
    exact ⟨_, rfl, .inr (.inl rfl), HS.out, HG.out⟩
  · go_wp2_with fail
    go_returns
    exact ⟨_, rfl, .inr (.inr (.inl rfl)), HS.out, HG.out⟩
  · go_wp2_with fail
    go_returns
    exact ⟨_, rfl, .inr (.inr (.inr rfl)), HS.out, HG.out⟩
  · omega
/-- Five letters, each once. -/
def LayOk (L : List UInt8) : Prop := L.length = 5 ∧ L.Nodup ∧ ∀ c ∈ L, 32 ≤ c.toNat ∧ c.toNat ≤ 126
theorem lay_of {s : ByteArray} (h : s = ⟨#[97, 98, 99, 100, 101, 102]⟩ ∨ s = ⟨#[102, 101, 100, 99, 98, 97]⟩ ∨ s = ⟨#[101, 97, 116, 32, 115, 110]⟩ ∨ s = ⟨#[122, 121, 120, 119, 118, 117]⟩) : ∃ L, LayOk L ∧ s.size = 6 ∧ s.extract 0 5 = sb L := by
  rcases h with rfl | rfl | rfl | rfl
  · exact ⟨[97, 98, 99, 100, 101], ⟨rfl, by decide, by decide⟩, rfl, by rfl⟩
  · exact ⟨[102, 101, 100, 99, 98], ⟨rfl, by decide, by decide⟩, rfl, by rfl⟩
  · exact ⟨[101, 97, 116, 32, 115], ⟨rfl, by decide, by decide⟩, rfl, by rfl⟩
  · exact ⟨[122, 121, 120, 119, 118], ⟨rfl, by decide, by decide⟩, rfl, by rfl⟩
/-- What the drawn layouts are. -/
def LayoutP (B : Nat) (w : World) (r : Ending) (w' : World) : Prop :=
  ∃ L T : List UInt8, r = .returned (.tuple #[.string (sb L), .string (sb T)]) ∧ LayOk L ∧ T.length ≤ 19 ∧ (∀ c ∈ T, c ∈ L) ∧ Below B w w'
set_option maxHeartbeats 8000000 in
theorem c_l07Letters (g : Nat) (A : Option Addr) (n c B : Nat) (w : World) (h : Src w g A n c 0) (hn : n ≤ 1099511627776) (hB : B ≤ g) (hA : ∀ b o, A = some ⟨b, o, none⟩ → 0 < n → b < w.heap.size) :
    Calls Try.prog 29 #[.pointer (some ⟨g, 0, none⟩), .int .i64 5] w (LayoutP B w) := by
  have H := Lib.hid h
  have HA := Lib.hid hA
  have hg := h.lt
  have hBw : B ≤ w.heap.size := by omega
  have CM := Lib.hid (fun w => (c_l00MinP 5 6 w).mono (fun e w' he => by rw [if_pos (show (5 : Int) < 6 by omega)] at he; exact he))
  clear h hA
  go_enter Try.func29, Try.ntmps29
  go_wp2_with fail
  refine (c_text g A n c 0 w.heap.size _ _ _ _ _ _ (H.out.later (by (repeat' (first | (with_reducible exact Below.refl _ _) | (with_reducible assumption) | (with_reducible refine below_drewN ?_ _) | (with_reducible refine Below.drew ?_) | (with_reducible refine Below.alloc ?_ ?_ _) | (with_reducible refine Below.setCell ?_ ?_ _) | go_size)))) (by omega) hn (heap_alloc_new w _) (by omega)).mono ?_
  rintro r_ w1 ⟨s, rfl, hs, hS, hG⟩
  obtain ⟨L, hLay, hsz, hex⟩ := lay_of hs
  have hz1 := hG.size
  simp only [World.size_alloc] at hz1
  have hB1 : Below B w w1 := below_grown (((Below.refl B w).alloc hBw _)) hG hB (by simp; omega)
  have HS1 := Lib.hid hS
  have HLAY := Lib.hid hLay
  obtain ⟨S, hSL⟩ : ∃ S, sb L = S := ⟨_, rfl⟩
  rw [hSL] at hex
  have hS5 : S.size = 5 := by rw [← hSL, sb_size]; exact hLay.1
  have HSL : Hid (bl S = L) := Lib.hid (by rw [← hSL, bl_sb])
  clear hs hS hG hLay hSL
  go_wp2_with (go_at_call 44; refine (CM.out _).mono ?_; rintro r_ w' ⟨rfl, rfl⟩)
  refine (c_pick g A n c 2 20 _ (HS1.out.later (by (repeat' (first | (with_reducible exact Below.refl _ _) | (with_reducible assumption) | (with_reducible refine below_drewN ?_ _) | (with_reducible refine Below.drew ?_) | (with_reducible refine Below.alloc ?_ ?_ _) | (with_reducible refine Below.setCell ?_ ?_ _) | go_size)))) (by omega) hn (by omega) (by omega)).mono ?_
  rintro r_ w2 ⟨k0, rfl, k00, k01, hS, hG⟩
  have hz2 := hG.size
  simp only [World.size_alloc] at hz2
  have hB2 : Below B w w2 := below_grown (hB1.alloc (by omega) _) hG hB (by simp; omega)
  have HO2 := Lib.hid (own_mark (BRow.made w1) hG (own_ne_old (BRow.made w1) (by omega)))
  have HS2 := Lib.hid hS
  clear hS hG
  obtain ⟨K, rfl⟩ : ∃ K : Nat, k0 = K := ⟨k0.toNat, by omega⟩
  go_wp2_with fail
  go_loopw [8, 9] (fun v k wr => ∃ (q : Nat) (T : List UInt8), q + T.length ≤ 19 ∧ k = .int .i64 q ∧ Hid (Src wr g A n c (4 + 2 * T.length)) ∧ Hid (BRow wr w1.heap.size v T) ∧ Hid (∀ c ∈ T, c ∈ L) ∧ Below B w wr ∧ w1.heap.size < wr.heap.size) (fun _ k _ => (intOf k).toNat)
  case atStart => exact ⟨K, [], by simp; omega, rfl, HS2, HO2, Lib.hid (by simp), hB2, by omega⟩
  case round =>
    obtain ⟨q, T, hq, rfl, hS, hO, hT, hBr, hsz⟩ := hrel
    rename World => wr
    by_cases hlt : 0 < q
    · have t1 : decide ((0 : Int) < (q : Int)) = true := decide_eq_true (by omega)
      have HS3 := hS
      have HO3 := hO
      have HT := hT
      clear hS hO hT
      go_wp2_with fail
      refine (c_pick g A n c (4 + 2 * T.length) 5 _ HS3.out (by omega) hn (by omega) (by omega)).mono ?_
      rintro r_ w4 ⟨x, rfl, x0, x1, hS, hG⟩
      have hz4 := hG.size
      have hB4 : Below B w w4 := below_grown hBr hG hB (by omega)
      have HO4 := Lib.hid (own_mark HO3.out hG (own_ne_old HO3.out (by omega)))
      have HS4 := Lib.hid hS
      obtain ⟨x, rfl⟩ : ∃ x' : Nat, x = x' := ⟨x.toNat, by omega⟩
      have hx5 : x < S.size := by omega
      have HIN : Hid (S[x] ∈ L) := Lib.hid (by rw [← HSL.out]; exact List.mem_of_getElem? (bl_get S x hx5))
      clear hS hG
      go_wp2_with (at_builtin; refine app1 rfl (.tmp 29) (.tmp 36) _ rfl w1.heap.size 5 _ 1 Try.underlying22 info_uint8 rfl _ _ rfl _ _ _ rfl HO4.out rfl (by omega) (by omega) (by omega) ?_; intro v5 w5 hown5 hb5 _; have HO5 := Lib.hid hown5; have HB5 := Lib.hid hb5; clear hown5 hb5)
      have hz5 := HB5.out.size
      go_roundw
      case rel => exact ⟨q - 1, T ++ [S[x]], by simp; omega, by go_num, Lib.hid ((srcBelow HS4.out HB5.out (by omega) (fun b o e h => by have := HA.out b o e h; omega)).more (by simp; omega)), Lib.hid (BRow.snoc HO5.out), Lib.hid (by
        intro d hd
        rcases List.mem_append.1 hd with hd | hd
        · exact HT.out d hd
        · rw [List.mem_singleton.1 hd]; exact HIN.out), hB4.trans (HB5.out.mono (by omega)), by omega⟩
      case measure => simp [intOf]; omega
    · obtain rfl : q = 0 := by omega
      have hconv := (BRow.later hO.out (Below.drew (Below.refl wr.heap.size wr))).text
      have hSS : S = sb L := by rw [← HSL.out, sb_bl]
      have HTT := hT
      have HFIN := Lib.hid (And.intro hq hBr)
      clear hS hO hT hBr
      go_wp2_with fail
      go_region_with fail
      all_goals
        go_wp2_with fail
        go_returns
        have hBr2 := HFIN.out.2
        exact ⟨L, T, by first | rfl | (rw [← hSS]; rfl), HLAY.out, by have := HFIN.out.1; omega, HTT.out, by (repeat' (first | (with_reducible exact Below.refl _ _) | (with_reducible assumption) | (with_reducible refine below_drewN ?_ _) | (with_reducible refine Below.drew ?_) | (with_reducible refine Below.alloc ?_ ?_ _) | (with_reducible refine Below.setCell ?_ ?_ _) | go_size))⟩
set_option maxHeartbeats 2000000 in
theorem c_A2Layout (A : Option Addr) (n c : Nat) (w : World) (hb : Bys w A n) (hn : n ≤ 1099511627776) :
    Calls Try.prog 12 #[.slice A n c, .int .i64 5] w (LayoutP w.heap.size w) := by
  have HS0 : Hid (Src (w.alloc (.cells #[.slice A n c, .int .i64 0, .int .u64 0] 73)) w.heap.size A n c 0) := src_new hb
  have HA := Lib.hid (fun b o (e : A = some ⟨b, o, none⟩) h0 => hb.lt b o e h0)
  clear hb
  go_enter Try.func12, Try.ntmps12
  go_wp2_with fail
  refine (c_l00From A n c _).mono ?_
  rintro r_ w1 ⟨rfl, rfl⟩
  go_wp2_with fail
  refine (c_l07Letters w.heap.size A n c w.heap.size _ HS0.out hn (Nat.le_refl _) (fun b o e h => by have := HA.out b o e h; simp only [World.size_alloc]; omega)).mono ?_
  rintro r_ w2 ⟨L, T, rfl, h1, h2, h3, hb2⟩
  have HF := Lib.hid (And.intro h1 (And.intro h2 h3))
  clear h1 h2 h3
  go_wp2_with fail
  go_returns
  exact ⟨L, T, rfl, HF.out.1, HF.out.2.1, HF.out.2.2, ((Below.refl _ w).alloc (Nat.le_refl _) _).trans hb2⟩
end Go.Proofs.Ytgigdipbfcffiaa
