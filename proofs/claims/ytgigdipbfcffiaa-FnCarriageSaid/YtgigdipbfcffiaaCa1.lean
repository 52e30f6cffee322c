/- Contracts: stops of a carriage: drawn, valid, the moves. -/
import Derived.Test.YtgigdipbfcffiaaCg
import Derived.Test.YtgigdipbfcffiaaAt
import Derived.Test.YtgigdipbfcffiaaZs
import Derived.Test.YtgigdipbfcffiaaBt
namespace Go.Proofs.Ytgigdipbfcffiaa
open Go.RowKit Go.BigFrame
attribute [local go_sem] sub_cell sub_frozen drewN_setCell

/-- Stops that rise, from 1 to 30, at most six. -/
def StpL (st : List Int) : Prop := st.length ≤ 6 ∧ StopsOk st ∧ ∀ i x y, st[i]? = some x → st[i + 1]? = some y → x < y
def b3 (j : Nat) : Int := match j with | 0 => 35 | 1 => 60 | _ => 62
def bytes3 : Array Value := #[.int .u8 35, .int .u8 60, .int .u8 62]
theorem bytes3_at (k : Nat) (h : k < 3) : bytes3[k]? = some (.int .u8 (b3 k)) := by
  match k, h with
  | 0, _ => rfl
  | 1, _ => rfl
  | 2, _ => rfl
theorem betw_inS {x a b : Int} (h1 : a ≤ x) (h2 : x ≤ b) : betw x a b = true := by simp [betw, h1, h2]
set_option maxHeartbeats 2000000 in
theorem c_ValidStops (A : Option Addr) (n c : Nat) (st : List Int) (h : StpL st) (w : World) (ha : Zs w A n st) :
    Calls Try.prog 40 #[.slice A n c] w fun e w' => e = .returned (.bool true) ∧ w = w' := by
  have hn : n ≤ 6 := by have := ha.1; have := h.1; omega
  have HA := Lib.hid ha
  have HS := Lib.hid h
  clear ha h
  go_enter Try.func40, Try.ntmps40
  go_wp2_with fail
  go_loop [10] (fun i => ∃ k : Nat, k ≤ n ∧ i = .int .i64 k) (fun i => n - (intOf i).toNat)
  case atStart => exact ⟨0, Nat.zero_le _, rfl⟩
  case round =>
    obtain ⟨k, hk, rfl⟩ := hrel
    by_cases hlt : k < n
    · obtain ⟨b, o, x, rfl, hb1, hb2, hx, c0⟩ := z_at HA.out (Below.refl _ _) hlt
      obtain ⟨x0, x1⟩ := HS.out.2.1 x (List.mem_of_getElem? hx)
      have g1 : betw x 1 30 = true := betw_inS x0 x1
      cases k with
      | zero =>
        have c0' : w.cell? ⟨b, o, none⟩ = some (.int .i64 x) := c0
        clear hx
        go_wp2_with (go_at_call 41; refine (c_between _ _ _ _ (by assumption) _).mono ?_; rintro r_ w1 ⟨rfl, rfl⟩)
        go_round
        case rel => exact ⟨1, by omega, by go_num⟩
        case measure => simp [intOf]; omega
      | succ k =>
        obtain ⟨b', o', y, e1, _, _, hy, c1⟩ := z_at HA.out (Below.refl _ _) (k := k) (by omega)
        simp only [Option.some.injEq, Addr.mk.injEq, and_true] at e1
        obtain ⟨rfl, rfl⟩ := e1
        have hyx := HS.out.2.2 k y x hy hx
        have m3 : decide (x ≤ y) = false := by simp; omega
        have m4 : decide ((0 : Int) < ((k + 1 : Nat) : Int)) = true := decide_eq_true (by omega)
        have i5 : ((k + 1 : Nat) : Int) = (k : Int) + 1 := by omega
        have i6 : (k : Int) < n := by omega
        have i7 : (0 : Int) ≤ (k : Int) := by omega
        clear hx hy
        go_wp2_with (go_at_call 41; refine (c_between _ _ _ _ (by assumption) _).mono ?_; rintro r_ w1 ⟨rfl, rfl⟩)
        go_round
        case rel => exact ⟨k + 2, by omega, by go_num⟩
        case measure => simp [intOf]; omega
    · go_wp2_with fail
      go_ret
      exact ⟨rfl, rfl⟩
set_option maxHeartbeats 1000000 in
theorem c_columnsCode (A : Option Addr) (n c : Nat) (st : List Int) (a b : Int) (h : StpL st) (a0 : 0 ≤ a) (a1 : a ≤ 30) (b0 : 0 ≤ b) (b1 : b ≤ 30) (w : World) (ha : Zs w A n st) :
    Calls Try.prog 26 #[.slice A n c, .int .i64 a, .int .i64 b] w fun e w' => e = .returned (.int .i64 0) ∧ w = w' := by
  have CV := Lib.hid (c_ValidStops A n c st h w ha)
  have g1 : betw a 0 30 = true := betw_inS a0 a1
  have g2 : betw b 0 30 = true := betw_inS b0 b1
  clear ha h
  go_enter Try.func26, Try.ntmps26
  go_wp2_with (first
    | (go_at_call 41; refine (c_between _ _ _ _ (by assumption) _).mono ?_; rintro r_ w1 ⟨rfl, rfl⟩)
    | (go_at_call 40; refine CV.out.mono ?_; rintro r_ w1 ⟨rfl, rfl⟩))
  go_ret
  exact ⟨rfl, rfl⟩
/-- What a move is told as. -/
def MovedP (st : List Int) (a : Int) (j : Nat) (w : World) (e : Ending) (w' : World) : Prop :=
  ∃ (v : Int) (ok : Bool), mvC st a j = (if ok then some v else none) ∧ e = .returned (.tuple #[.int .i64 v, .bool ok]) ∧ w = w'
set_option maxHeartbeats 2000000 in
theorem c_moved (A : Option Addr) (n c : Nat) (st : List Int) (a : Int) (j : Nat) (hj : j < 3) (h : StpL st) (a0 : 0 ≤ a) (a1 : a ≤ 30) (w : World) (ha : Zs w A n st) :
    Calls Try.prog 42 #[.slice A n c, .int .i64 a, .int .u8 (b3 j)] w (MovedP st a j w) := by
  have hn : n ≤ 6 := by have := ha.1; have := h.1; omega
  have HA := Lib.hid ha
  have HL := Lib.hid ha.1
  clear ha h
  match j, hj with
  | 1, _ =>
    show Calls Try.prog 42 #[.slice A n c, .int .i64 a, .int .u8 60] w (MovedP st a 1 w)
    by_cases h0 : 0 < a
    · have t0 : decide (0 < a) = true := decide_eq_true h0
      go_enter Try.func42, Try.ntmps42
      go_wp2_with fail
      go_returns
      exact ⟨a - 1, true, by simp [mvC, h0], rfl, rfl⟩
    · have t0 : decide (0 < a) = false := decide_eq_false h0
      go_enter Try.func42, Try.ntmps42
      go_wp2_with fail
      go_returns
      exact ⟨a - 1, false, by simp [mvC, h0], rfl, rfl⟩
  | 2, _ =>
    show Calls Try.prog 42 #[.slice A n c, .int .i64 a, .int .u8 62] w (MovedP st a 2 w)
    by_cases h0 : a < 30
    · have t0 : decide (a < 30) = true := decide_eq_true h0
      go_enter Try.func42, Try.ntmps42
      go_wp2_with fail
      go_returns
      exact ⟨a + 1, true, by simp [mvC, h0], rfl, rfl⟩
    · have t0 : decide (a < 30) = false := decide_eq_false h0
      go_enter Try.func42, Try.ntmps42
      go_wp2_with fail
      go_returns
      exact ⟨a + 1, false, by simp [mvC, h0], rfl, rfl⟩
  | 0, _ =>
    show Calls Try.prog 42 #[.slice A n c, .int .i64 a, .int .u8 35] w (MovedP st a 0 w)
    go_enter Try.func42, Try.ntmps42
    go_wp2_with fail
    go_loop [25] (fun i => ∃ k : Nat, k ≤ n ∧ i = .int .i64 k ∧ Hid (∀ x ∈ st.take k, x ≤ a)) (fun i => n - (intOf i).toNat)
    case atStart => exact ⟨0, Nat.zero_le _, rfl, Lib.hid (by simp)⟩
    case round =>
      obtain ⟨k, hk, rfl, hle⟩ := hrel
      by_cases hlt : k < n
      · obtain ⟨b, o, x, rfl, hb1, hb2, hx, c0⟩ := z_at HA.out (Below.refl _ _) hlt
        have HX := Lib.hid hx
        clear hx
        by_cases hax : a < x
        · have HM : Hid (mvC st a 0 = some x) := Lib.hid (nxt_at hle.out HX.out hax)
          go_wp2_with fail
          go_returns
          exact ⟨x, true, by rw [HM.out]; rfl, rfl, rfl⟩
        · have HM : Hid (∀ y ∈ st.take (k + 1), y ≤ a) := Lib.hid (by
            intro y hy
            rw [List.take_add_one, HX.out] at hy
            simp only [Option.toList_some, List.mem_append, List.mem_singleton] at hy
            rcases hy with hy | rfl
            · exact hle.out y hy
            · omega)
          clear hle
          go_wp2_with fail
          go_round
          case rel => exact ⟨k + 1, by omega, by go_num, HM⟩
          case measure => simp [intOf]; omega
      · have HM : Hid (mvC st a 0 = none) := Lib.hid (nxt_none (fun x hx => by have := hle.out; rw [List.take_of_length_le (by have := HL.out; omega)] at this; exact this x hx))
        clear hle
        go_wp2_with fail
        go_returns
        exact ⟨0, false, by rw [HM.out]; rfl, rfl, rfl⟩
theorem Src.below {w w' : World} {g n c t base : Nat} {A : Option Addr} (h : Src w g A n c t) (hb : Below base w w') (hg : g < base) (hA : ∀ b o, A = some ⟨b, o, none⟩ → 0 < n → b < base) : Src w' g A n c t := by
  obtain ⟨a, sd, h1, h2, h3, h4⟩ := h
  refine ⟨a, sd, (hb.block g hg).trans h1, h2, h3, ?_⟩
  rcases Nat.eq_zero_or_pos n with h0 | h0
  · exact .inl h0
  · exact Bys.keep h4 hb.size fun b o e => hb.block b (hA b o e h0)
/-- Stops that rise up to a column. -/
def RS (z : Int) (L : List Int) : Prop := (∀ x ∈ L, 1 ≤ x ∧ x ≤ z) ∧ ∀ i x y, L[i]? = some x → L[i + 1]? = some y → x < y
theorem RS.snoc {z y : Int} {L : List Int} (h : RS z L) (z0 : 0 ≤ z) (hy : z < y) : RS y (L ++ [y]) := by
  refine ⟨fun x hx => ?_, fun i a b h1 h2 => ?_⟩
  · rcases List.mem_append.1 hx with hx | hx
    · have := h.1 x hx; omega
    · simp only [List.mem_singleton] at hx; omega
  · have hl := (List.getElem?_eq_some_iff.1 h2).1
    simp only [List.length_append, List.length_singleton] at hl
    rw [List.getElem?_append_left (by omega)] at h1
    rcases Nat.lt_or_ge (i + 1) L.length with h3 | h3
    · rw [List.getElem?_append_left h3] at h2
      exact h.2 i a b h1 h2
    · rw [List.getElem?_append_right h3, show i + 1 - L.length = 0 by omega] at h2
      simp only [List.getElem?_cons_zero, Option.some.injEq] at h2
      have := h.1 a (List.mem_of_getElem? h1)
      omega
/-- What the drawn stops are. -/
def StopsP (B : Nat) (w : World) (r : Ending) (w' : World) : Prop :=
  ∃ (L : List Int) (A : Option Addr) (c : Nat), r = .returned (.slice A L.length c) ∧ Zs w' A L.length L ∧ L.length ≤ 3 ∧ RS 21 L ∧ Below B w w'
set_option maxHeartbeats 8000000 in
theorem c_A2Stops (A : Option Addr) (n c : Nat) (w : World) (hb : Bys w A n) (hn : n ≤ 1099511627776) :
    Calls Try.prog 7 #[.slice A n c] w (StopsP w.heap.size w) := by
  have HS0 : Hid (Src (w.alloc (.cells #[.slice A n c, .int .i64 0, .int .u64 0] 73)) w.heap.size A n c 0) := src_new hb
  have HA := Lib.hid (fun b o (e : A = some ⟨b, o, none⟩) h0 => hb.lt b o e h0)
  clear hb
  go_enter Try.func7, Try.ntmps7
  go_wp2_with fail
  refine (c_l00From A n c _).mono ?_
  rintro r_ w1 ⟨rfl, rfl⟩
  go_wp2_with fail
  refine (c_pick w.heap.size A n c 0 4 _ (HS0.out.later (by (repeat' (first | (with_reducible exact Below.refl _ _) | (with_reducible assumption) | (with_reducible refine below_drewN ?_ _) | (with_reducible refine Below.drew ?_) | (with_reducible refine Below.alloc ?_ ?_ _) | (with_reducible refine Below.setCell ?_ ?_ _) | go_size)))) (by omega) hn (by omega) (by omega)).mono ?_
  rintro r_ w2 ⟨k0, rfl, k00, k01, hS, hG⟩
  have hz2 := hG.size
  simp only [World.size_alloc] at hz2
  have hB2 : Below w.heap.size w w2 := below_grown (((Below.refl _ w).alloc (Nat.le_refl _) _).alloc (by simp) _) hG (Nat.le_refl _) (by simp; omega)
  have HO2 := Lib.hid (own_mark (World.ownsRow_made (w.alloc (.cells #[.slice A n c, .int .i64 0, .int .u64 0] 73)) #[] 0 (e := 2) (size := 1) (Nat.le_refl _) (by simp [maxLen]) rfl) hG (own_ne_old (World.ownsRow_made (w.alloc (.cells #[.slice A n c, .int .i64 0, .int .u64 0] 73)) #[] 0 (e := 2) (size := 1) (Nat.le_refl _) (by simp [maxLen]) rfl) (by simp)))
  have HS2 := Lib.hid hS
  clear hS hG
  obtain ⟨K, rfl⟩ : ∃ K : Nat, k0 = K := ⟨k0.toNat, by omega⟩
  go_wp2_with fail
  go_loopw [4, 5, 6] (fun v a k wr => ∃ (q : Nat) (z : Int) (L : List Int), q + L.length ≤ 3 ∧ k = .int .i64 q ∧ a = .int .i64 z ∧ 0 ≤ z ∧ z ≤ 7 * (L.length : Int) ∧ Hid (Src wr w.heap.size A n c (2 + 2 * L.length)) ∧ Hid (wr.ownsRow (w.heap.size + 1) 2 1 v L.length (L.map (Value.int .i64))) ∧ Hid (RS z L) ∧ Below w.heap.size w wr ∧ w.heap.size < wr.heap.size) (fun _ _ k _ => (intOf k).toNat)
  case atStart => exact ⟨K, 0, [], by simp; omega, rfl, rfl, by omega, by simp, HS2, Lib.hid (by have h := HO2.out; simp only [World.size_alloc] at h; exact h), Lib.hid ⟨by simp, by simp⟩, hB2, by omega⟩
  case round =>
    obtain ⟨q, z, L, hq, rfl, rfl, z0, z1, hS, hO, hR, hBr, hsz⟩ := hrel
    rename World => wr
    by_cases hlt : 0 < q
    · have t1 : decide ((0 : Int) < (q : Int)) = true := decide_eq_true (by omega)
      have HS3 := hS
      have HO3 := hO
      have HR := hR
      clear hS hO hR
      go_wp2_with fail
      refine (c_pick w.heap.size A n c (2 + 2 * L.length) 7 _ HS3.out (by omega) hn (by omega) (by omega)).mono ?_
      rintro r_ w4 ⟨x, rfl, x0, x1, hS, hG⟩
      have hz4 := hG.size
      have hB4 : Below w.heap.size w w4 := below_grown hBr hG (Nat.le_refl _) (by omega)
      have HO4 := Lib.hid (own_mark HO3.out hG (own_ne_old HO3.out (by omega)))
      have HS4 := Lib.hid hS
      clear hS hG
      go_wp2_with (at_builtin; refine app1 rfl (.tmp 21) (.tmp 23) _ rfl (w.heap.size + 1) 2 _ 8 Try.underlying24 info_int64 rfl _ _ rfl _ _ _ rfl HO4.out rfl (by omega) (by omega) (by omega) ?_; intro v5 w5 hown5 hb5 _; have HO5 := Lib.hid hown5; have HB5 := Lib.hid hb5; clear hown5 hb5)
      have hz5 := HB5.out.size
      go_roundw
      case rel => exact ⟨q - 1, z + (1 + x), L ++ [z + (1 + x)], by simp; omega, by go_num, by go_num, by omega, by simp; omega, Lib.hid ((HS4.out.below HB5.out (by omega) (fun b o e h => by have := HA.out b o e h; omega)).more (by simp; omega)), Lib.hid (by rw [List.map_append, List.length_append]; exact HO5.out), Lib.hid (HR.out.snoc z0 (by omega)), hB4.trans (HB5.out.mono (by omega)), by omega⟩
      case measure => simp [intOf]; omega
    · obtain rfl : q = 0 := by omega
      obtain ⟨AA, cc, rfl⟩ := own_slice hO.out
      go_wp2_with fail
      go_ret
      exact ⟨L, AA, cc, rfl, z_own hO.out, by omega, ⟨fun s hs => by have := hR.out.1 s hs; omega, hR.out.2⟩, hBr⟩
end Go.Proofs.Ytgigdipbfcffiaa
