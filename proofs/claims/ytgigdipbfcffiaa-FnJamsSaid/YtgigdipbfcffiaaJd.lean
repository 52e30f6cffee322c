/- Contracts: the drawn baskets and strokes (the reference). Written by gen_jd.py. -/
import Derived.Test.YtgigdipbfcffiaaJc
import Derived.Test.YtgigdipbfcffiaaAt
import Derived.Deep.DeepCutAuto
namespace Go.Proofs.Ytgigdipbfcffiaa
open Go.RowKit Go.BigFrame
attribute [local go_sem] sub_cell sub_frozen drewN_setCell

/-- What the drawn baskets are. -/
def BasketP (lo : Int) (B : Nat) (w : World) (r : Ending) (w' : World) : Prop :=
  ∃ b R F C N : Int, r = .returned (bkt b R F C N) ∧ lo ≤ b ∧ b ≤ lo + 9 ∧ 1 ≤ R ∧ R ≤ 6 ∧ 1 ≤ F ∧ F ≤ 6 ∧ 1 ≤ C ∧ C ≤ 4 ∧ 0 ≤ N ∧ N ≤ 5 ∧ Below B w w'
set_option maxHeartbeats 8000000 in
theorem c_l03Draw (g : Nat) (A : Option Addr) (n c B : Nat) (w : World) (h : Src w g A n c 0) (hn : n ≤ 1099511627776) (hB : B ≤ g) (hA : ∀ b o, A = some ⟨b, o, none⟩ → 0 < n → b < w.heap.size) :
    Calls Try.prog 32 #[.pointer (some ⟨g, 0, none⟩)] w (BasketP 2 B w) := by
  have H := Lib.hid h
  have HA := Lib.hid hA
  have hg := h.lt
  have hBw : B ≤ w.heap.size := by omega
  clear h hA
  go_enter Try.func32, Try.ntmps32
  go_wp2_with fail
  refine (c_pick g A n c 0 10 _ (H.out.later (by (repeat' (first | (with_reducible exact Below.refl _ _) | (with_reducible assumption) | (with_reducible refine below_drewN ?_ _) | (with_reducible refine Below.drew ?_) | (with_reducible refine Below.alloc ?_ ?_ _) | (with_reducible refine Below.setCell ?_ ?_ _) | go_size)))) (by omega) hn (by omega) (by omega)).mono ?_
  rintro r_ w1 ⟨x1, rfl, hx10, hx11, hS, hG⟩
  have hz1 := hG.size
  simp only [World.size_alloc] at hz1
  have hB1 : Below B w w1 := below_grown (((Below.refl B w).alloc hBw _)) hG hB (by simp; omega)
  have HZ1 : Hid (w1.heap[w.heap.size]? = some (.cells #[.int .i64 0, .int .i64 0, .int .i64 0, .int .i64 0, .int .i64 0] 41)) := (hG.block w.heap.size (by simp) (by simp; omega)).trans (by simp [World.alloc, -World.alloc_eq])
  have HS1 := Lib.hid hS
  clear hS hG
  go_wp2_with fail
  refine (c_pick g A n c 2 6 _ (HS1.out.later (by (repeat' (first | (with_reducible exact Below.refl _ _) | (with_reducible assumption) | (with_reducible refine below_drewN ?_ _) | (with_reducible refine Below.drew ?_) | (with_reducible refine Below.alloc ?_ ?_ _) | (with_reducible refine Below.setCell ?_ ?_ _) | go_size)))) (by omega) hn (by omega) (by omega)).mono ?_
  rintro r_ w2 ⟨x2, rfl, hx20, hx21, hS, hG⟩
  have hz2 := hG.size
  simp only [World.size_alloc] at hz2
  have hB2 : Below B w w2 := below_grown (hB1.alloc (by omega) _) hG hB (by simp; omega)
  have HT2 : Hid (w2.heap[w1.heap.size]? = some (.cells #[.int .i64 (2 + x1), .int .i64 0, .int .i64 0, .int .i64 0, .int .i64 0] 41)) := (hG.block w1.heap.size (by simp) (by simp; omega)).trans (by simp [World.alloc, -World.alloc_eq])
  have HZ2 : Hid (w2.heap[w.heap.size]? = some (.cells #[.int .i64 0, .int .i64 0, .int .i64 0, .int .i64 0, .int .i64 0] 41)) := (hG.block w.heap.size (by simp; omega) (by simp; omega)).trans ((Below.heap_alloc _ _ _ (by omega)).trans HZ1.out)
  have HS2 := Lib.hid hS
  obtain ⟨p0, p1, p2, p3, p4, pf⟩ := cells5_of HT2.out
  have pf2 := pf 1
  clear hS hG pf
  go_wp2_with fail
  refine (c_pick g A n c 4 6 _ (HS2.out.setOther (by omega) (fun b o e h => by have := HA.out b o e h; omega)) (by omega) hn (by omega) (by omega)).mono ?_
  rintro r_ w3 ⟨x3, rfl, hx30, hx31, hS, hG⟩
  have hz3 := hG.size
  have e3 : (w2.setCell ⟨w1.heap.size, 1, none⟩ (.int .i64 (1 + x2))).heap.size = w2.heap.size := by simp [World.setCell]
  rw [e3] at hz3
  have hB3 : Below B w w3 := below_grown (hB2.setCell (by show B ≤ w1.heap.size; omega) _) hG hB (by rw [e3]; omega)
  have HT3 : Hid (w3.heap[w1.heap.size]? = some (.cells #[.int .i64 (2 + x1), .int .i64 (1 + x2), .int .i64 0, .int .i64 0, .int .i64 0] 41)) := (hG.block w1.heap.size (by rw [e3]; omega) (by simp; omega)).trans (by simp [World.setCell, Array.getElem?_modify, HT2.out])
  have HZ3 : Hid (w3.heap[w.heap.size]? = some (.cells #[.int .i64 0, .int .i64 0, .int .i64 0, .int .i64 0, .int .i64 0] 41)) := (hG.block w.heap.size (by rw [e3]; omega) (by simp; omega)).trans ((Below.heap_setCell _ _ _ _ (by simp; omega)).trans HZ2.out)
  have HS3 := Lib.hid hS
  clear p0 p1 p2 p3 p4 pf2
  obtain ⟨p0, p1, p2, p3, p4, pf⟩ := cells5_of HT3.out
  have pf3 := pf 2
  clear hS hG pf
  go_wp2_with fail
  refine (c_pick g A n c 6 4 _ (HS3.out.setOther (by omega) (fun b o e h => by have := HA.out b o e h; omega)) (by omega) hn (by omega) (by omega)).mono ?_
  rintro r_ w4 ⟨x4, rfl, hx40, hx41, hS, hG⟩
  have hz4 := hG.size
  have e4 : (w3.setCell ⟨w1.heap.size, 2, none⟩ (.int .i64 (1 + x3))).heap.size = w3.heap.size := by simp [World.setCell]
  rw [e4] at hz4
  have hB4 : Below B w w4 := below_grown (hB3.setCell (by show B ≤ w1.heap.size; omega) _) hG hB (by rw [e4]; omega)
  have HT4 : Hid (w4.heap[w1.heap.size]? = some (.cells #[.int .i64 (2 + x1), .int .i64 (1 + x2), .int .i64 (1 + x3), .int .i64 0, .int .i64 0] 41)) := (hG.block w1.heap.size (by rw [e4]; omega) (by simp; omega)).trans (by simp [World.setCell, Array.getElem?_modify, HT3.out])
  have HZ4 : Hid (w4.heap[w.heap.size]? = some (.cells #[.int .i64 0, .int .i64 0, .int .i64 0, .int .i64 0, .int .i64 0] 41)) := (hG.block w.heap.size (by rw [e4]; omega) (by simp; omega)).trans ((Below.heap_setCell _ _ _ _ (by simp; omega)).trans HZ3.out)
  have HS4 := Lib.hid hS
  clear p0 p1 p2 p3 p4 pf3
  obtain ⟨p0, p1, p2, p3, p4, pf⟩ := cells5_of HT4.out
  have pf4 := pf 3
  clear hS hG pf
  go_wp2_with fail
  refine (c_pick g A n c 8 6 _ (HS4.out.setOther (by omega) (fun b o e h => by have := HA.out b o e h; omega)) (by omega) hn (by omega) (by omega)).mono ?_
  rintro r_ w5 ⟨x5, rfl, hx50, hx51, hS, hG⟩
  have hz5 := hG.size
  have e5 : (w4.setCell ⟨w1.heap.size, 3, none⟩ (.int .i64 (1 + x4))).heap.size = w4.heap.size := by simp [World.setCell]
  rw [e5] at hz5
  have hB5 : Below B w w5 := below_grown (hB4.setCell (by show B ≤ w1.heap.size; omega) _) hG hB (by rw [e5]; omega)
  have HT5 : Hid (w5.heap[w1.heap.size]? = some (.cells #[.int .i64 (2 + x1), .int .i64 (1 + x2), .int .i64 (1 + x3), .int .i64 (1 + x4), .int .i64 0] 41)) := (hG.block w1.heap.size (by rw [e5]; omega) (by simp; omega)).trans (by simp [World.setCell, Array.getElem?_modify, HT4.out])
  have HZ5 : Hid (w5.heap[w.heap.size]? = some (.cells #[.int .i64 0, .int .i64 0, .int .i64 0, .int .i64 0, .int .i64 0] 41)) := (hG.block w.heap.size (by rw [e5]; omega) (by simp; omega)).trans ((Below.heap_setCell _ _ _ _ (by simp; omega)).trans HZ4.out)
  have HS5 := Lib.hid hS
  clear p0 p1 p2 p3 p4 pf4
  obtain ⟨p0, p1, p2, p3, p4, pf⟩ := cells5_of HT5.out
  have pf5 := pf 4
  obtain ⟨s0, s1, s2, s3, s4, sf⟩ := cells5_of HZ5.out
  have sf0 := sf 0
  have sf1 := sf 1
  have sf2 := sf 2
  have sf3 := sf 3
  have sf4 := sf 4
  clear sf
  clear hS hG pf
  go_wp2_with fail
  have hne1 : w1.heap.size ≠ w.heap.size := by omega
  refine bodyPost_ret (by simp [results, Try.results32, go_sem, *]; try rfl) rfl ?_
  exact ⟨2 + x1, 1 + x2, 1 + x3, 1 + x4, x5, rfl, by omega, by omega, by omega, by omega, by omega, by omega, by omega, by omega, by omega, by omega, (((((hB5.setCell (by show B ≤ w1.heap.size; omega) _).setCell (by show B ≤ w.heap.size; omega) _).setCell (by show B ≤ w.heap.size; omega) _).setCell (by show B ≤ w.heap.size; omega) _).setCell (by show B ≤ w.heap.size; omega) _).setCell (by show B ≤ w.heap.size; omega) _⟩
theorem Src.below {w w' : World} {g n c t base : Nat} {A : Option Addr} (h : Src w g A n c t) (hb : Below base w w') (hg : g < base) (hA : ∀ b o, A = some ⟨b, o, none⟩ → 0 < n → b < base) : Src w' g A n c t := by
  obtain ⟨a, sd, h1, h2, h3, h4⟩ := h
  refine ⟨a, sd, (hb.block g hg).trans h1, h2, h3, ?_⟩
  rcases Nat.eq_zero_or_pos n with h0 | h0
  · exact .inl h0
  · exact Bys.keep h4 hb.size fun b o e => hb.block b (hA b o e h0)
theorem Below.src {w w' : World} {base g : Nat} (h : w.grownBy w' (some g)) {b : Nat} (hb : b < w.heap.size) (hne : b ≠ g) : w'.heap[b]? = w.heap[b]? := h.block b hb (by simp; exact hne)
set_option maxHeartbeats 400000 in
theorem c_l00Min (a b : Int) (w : World) :
    Calls Try.prog 44 #[.int .i64 a, .int .i64 b] w fun e w' => e = .returned (.int .i64 (if a < b then a else b)) ∧ w = w' := by
  by_cases h : a < b
  all_goals
    go_enter Try.func44, Try.ntmps44
    go_wp2_with fail
    go_ret
    simp [*]
set_option maxHeartbeats 40000000 in
theorem c_A2Basket (A : Option Addr) (n c : Nat) (w : World) (hb : Bys w A n) (hn : n ≤ 1099511627776) :
    Calls Try.prog 16 #[.slice A n c] w (BasketP 7 w.heap.size w) := by
  have HS : Hid (∀ W : World, Below w.heap.size w W → Src (W.alloc (.cells #[.slice A n c, .int .i64 0, .int .u64 0] 73)) W.heap.size A n c 0) := fun W h => src_new (hb.later h)
  have HX : Hid (Src ((w.alloc (.cells #[.int .i64 0, .int .i64 0, .int .i64 0, .int .i64 0, .int .i64 0] 41)).alloc (.cells #[.slice A n c, .int .i64 0, .int .u64 0] 73)) (w.heap.size + 1) A n c 0) := by
    have h := HS.out (w.alloc (.cells #[.int .i64 0, .int .i64 0, .int .i64 0, .int .i64 0, .int .i64 0] 41)) ((Below.refl _ w).alloc (Nat.le_refl _) _)
    rw [World.size_alloc] at h
    exact h
  have HA := Lib.hid hb
  clear hb
  go_enter Try.func16, Try.ntmps16
  go_wp2_with fail
  refine (c_l00From A n c _).mono ?_
  rintro r_ w1 ⟨rfl, rfl⟩
  go_wp2_with fail
  refine (c_l03Draw _ A n c (w.heap.size + 1) _ HX.out hn (Nat.le_refl _) (fun b o e h => by have := HA.out.lt b o e h; simp only [World.size_alloc]; omega)).mono ?_
  rintro r_ w2 ⟨b, R, F, C, N, rfl, h1, h2, h3, h4, h5, h6, h7, h8, h9, h10, hb2⟩
  have hlt : w.heap.size < w2.heap.size := by have := hb2.size; simp at this; omega
  have H0 : Hid ((w2.alloc (.cells #[.int .i64 (b + 5), .int .i64 R, .int .i64 F, .int .i64 C, .int .i64 N] 41)).heap[w.heap.size]? = some (.cells #[.int .i64 0, .int .i64 0, .int .i64 0, .int .i64 0, .int .i64 0] 41)) := Lib.hid ((Below.heap_alloc _ _ _ hlt).trans ((hb2.block w.heap.size (by simp)).trans ((Below.heap_alloc _ _ _ (by simp)).trans (by simp [World.alloc, -World.alloc_eq]))))
  have H1 : Hid ((w2.alloc (.cells #[.int .i64 (b + 5), .int .i64 R, .int .i64 F, .int .i64 C, .int .i64 N] 41)).heap[w2.heap.size]? = some (.cells #[.int .i64 (b + 5), .int .i64 R, .int .i64 F, .int .i64 C, .int .i64 N] 41)) := Lib.hid (by simp [World.alloc, -World.alloc_eq])
  have hB0 : Below w.heap.size w w2 := ((by (repeat' (first | (with_reducible exact Below.refl _ _) | (with_reducible assumption) | (with_reducible refine below_drewN ?_ _) | (with_reducible refine Below.drew ?_) | (with_reducible refine Below.alloc ?_ ?_ _) | (with_reducible refine Below.setCell ?_ ?_ _) | go_size)) : Below w.heap.size w _).trans (hb2.mono (by omega)))
  have hB : Hid (Below w.heap.size w (w2.alloc (.cells #[.int .i64 (b + 5), .int .i64 R, .int .i64 F, .int .i64 C, .int .i64 N] 41))) := Lib.hid (hB0.alloc (by omega) _)
  have HH := Lib.hid (show 7 ≤ b + 5 ∧ b + 5 ≤ 7 + 9 ∧ 1 ≤ R ∧ R ≤ 6 ∧ 1 ≤ F ∧ F ≤ 6 ∧ 1 ≤ C ∧ C ≤ 4 ∧ 0 ≤ N ∧ N ≤ 5 by omega)
  have hs1 : -100 ≤ b := by omega
  have hs2 : b ≤ 100 := by omega
  clear hb2 hB0 h1 h2 h3 h4 h5 h6 h7 h8 h9 h10
  go_upto_region 3 with fail
  have hne : w2.heap.size ≠ w.heap.size := by omega
  generalize w2.alloc (.cells #[.int .i64 (b + 5), .int .i64 R, .int .i64 F, .int .i64 C, .int .i64 N] 41) = w3 at *
  generalize w2.heap.size = g1 at *
  clear hs1 hs2 hlt
  obtain ⟨p0, p1, p2, p3, p4, _⟩ := cells5_of H1.out
  obtain ⟨s0, s1, s2, s3, s4, sf⟩ := cells5_of H0.out
  have sf0 := sf 0
  have sf1 := sf 1
  have sf2 := sf 2
  have sf3 := sf 3
  have sf4 := sf 4
  clear sf
  go_wp2_with fail
  refine bodyPost_ret (by simp [results, Try.results16, go_sem, *]; try rfl) rfl ?_
  obtain ⟨h1, h2, h3, h4, h5, h6, h7, h8, h9, h10⟩ := HH.out
  exact ⟨b + 5, R, F, C, N, rfl, h1, h2, h3, h4, h5, h6, h7, h8, h9, h10, (((((hB.out.setCell (Nat.le_refl _) _).setCell (Nat.le_refl _) _).setCell (Nat.le_refl _) _).setCell (Nat.le_refl _) _).setCell (Nat.le_refl _) _)⟩
/-- Strokes with bars below a number, at ticks that rise up to another one. -/
def GL (bars a : Int) (L : List (Int × Int)) : Prop := (∀ s ∈ L, 0 ≤ s.1 ∧ s.1 < bars ∧ 0 ≤ s.2 ∧ s.2 ≤ a) ∧ ∀ i s t, L[i]? = some s → L[i + 1]? = some t → s.2 ≤ t.2
theorem GL.nil (bars a : Int) : GL bars a [] := ⟨by simp, by simp⟩
theorem GL.snoc {bars a a' x : Int} {L : List (Int × Int)} (h : GL bars a L) (x0 : 0 ≤ x) (x1 : x < bars) (a0 : 0 ≤ a) (ha : a ≤ a') : GL bars a' (L ++ [(x, a)]) := by
  refine ⟨fun s hs => ?_, fun i s t h1 h2 => ?_⟩
  · rcases List.mem_append.1 hs with hs | hs
    · obtain ⟨p, q, r, u⟩ := h.1 s hs
      exact ⟨p, q, r, by omega⟩
    · simp only [List.mem_singleton] at hs
      subst hs
      exact ⟨x0, x1, a0, ha⟩
  · have hl := (List.getElem?_eq_some_iff.1 h2).1
    simp only [List.length_append, List.length_singleton] at hl
    rw [List.getElem?_append_left (by omega)] at h1
    rcases Nat.lt_or_ge (i + 1) L.length with h3 | h3
    · rw [List.getElem?_append_left h3] at h2
      exact h.2 i s t h1 h2
    · rw [List.getElem?_append_right h3, show i + 1 - L.length = 0 by omega] at h2
      simp only [List.getElem?_cons_zero, Option.some.injEq] at h2
      subst h2
      exact (h.1 s (List.mem_of_getElem? h1)).2.2.2
theorem flat_snoc {α : Type} (f : α → List Value) (L : List α) (x : α) : flat f (L ++ [x]) = flat f L ++ f x := by simp [flat]
/-- What the drawn strokes are. -/
def StrokesP (bars : Int) (B : Nat) (w : World) (r : Ending) (w' : World) : Prop :=
  ∃ (L : List (Int × Int)) (A : Option Addr) (c : Nat), r = .returned (.slice A L.length c) ∧ Sl strokeC w' w'.heap.size 2 A L.length L ∧ L.length ≤ 11 ∧ GL bars 200 L ∧ Below B w w'
theorem info_Stroke : (Try.prog.info? 53).map (fun i => (i.zero, i.size, i.bytes)) = some (some (.agg #[.int .i64 0, .int .i64 0]), 2, 16) := by kernel_rfl
set_option maxHeartbeats 8000000 in
theorem c_l03New (g : Nat) (A : Option Addr) (n c B : Nat) (b R F C N : Int) (w : World) (h : Src w g A n c 0) (hn : n ≤ 1099511627776) (hB : B ≤ g) (hA : ∀ b o, A = some ⟨b, o, none⟩ → 0 < n → b < w.heap.size) (b0 : 1 ≤ b) (b1 : b ≤ 16) :
    Calls Try.prog 33 #[.pointer (some ⟨g, 0, none⟩), bkt b R F C N] w (StrokesP b B w) := by
  have H := Lib.hid h
  have HA := Lib.hid hA
  have hg := h.lt
  have hBw : B ≤ w.heap.size := by omega
  have CM := Lib.hid (fun w => (c_l00Min b 60 w).mono (fun e w' he => by rw [if_pos (show b < 60 by omega)] at he; exact he))
  clear h hA
  go_enter Try.func33, Try.ntmps33
  go_wp2_with fail
  refine (c_pick g A n c 0 20 _ (H.out.later (by (repeat' (first | (with_reducible exact Below.refl _ _) | (with_reducible assumption) | (with_reducible refine below_drewN ?_ _) | (with_reducible refine Below.drew ?_) | (with_reducible refine Below.alloc ?_ ?_ _) | (with_reducible refine Below.setCell ?_ ?_ _) | go_size)))) (by omega) hn (by omega) (by omega)).mono ?_
  rintro r_ w1 ⟨a0, rfl, a00, a01, hS, hG⟩
  have hz1 := hG.size
  simp only [World.size_alloc] at hz1
  have hB1 : Below B w w1 := below_grown (((Below.refl B w).alloc hBw _).alloc (by simp; omega) _) hG hB (by simp; omega)
  have HK1 : Hid (BkAt w1 w.heap.size b R F C N) := (hG.block w.heap.size (by simp; omega) (by simp; omega)).trans ((Below.heap_alloc _ _ _ (by simp)).trans (by simp [World.alloc, -World.alloc_eq]))
  have HO1 := Lib.hid (own_mark (World.ownsRow_made (w.alloc (.cells #[.int .i64 b, .int .i64 R, .int .i64 F, .int .i64 C, .int .i64 N] 41)) #[] 0 (e := 53) (size := 2) (Nat.le_refl _) (by simp [maxLen]) rfl) hG (own_ne_old (World.ownsRow_made (w.alloc (.cells #[.int .i64 b, .int .i64 R, .int .i64 F, .int .i64 C, .int .i64 N] 41)) #[] 0 (e := 53) (size := 2) (Nat.le_refl _) (by simp [maxLen]) rfl) (by simp; omega)))
  have HS1 := Lib.hid hS
  clear hS hG
  go_wp2_with fail
  refine (c_pick g A n c 2 12 _ HS1.out (by omega) hn (by omega) (by omega)).mono ?_
  rintro r_ w2 ⟨k0, rfl, k00, k01, hS, hG⟩
  have hz2 := hG.size
  have hB2 : Below B w w2 := below_grown hB1 hG hB (by omega)
  have HK2 : Hid (BkAt w2 w.heap.size b R F C N) := (hG.block w.heap.size (by omega) (by simp; omega)).trans HK1.out
  have HO2 := Lib.hid (own_mark HO1.out hG (own_ne_old HO1.out (by simp; omega)))
  have HS2 := Lib.hid hS
  clear hS hG
  obtain ⟨K, rfl⟩ : ∃ K : Nat, k0 = K := ⟨k0.toNat, by omega⟩
  go_wp2_with fail
  go_loopw [5, 6, 7] (fun v a k wr => ∃ (q : Nat) (z : Int) (L : List (Int × Int)), q + L.length ≤ 11 ∧ k = .int .i64 q ∧ a = .int .i64 z ∧ 0 ≤ z ∧ z ≤ 20 + 7 * (L.length : Int) ∧ Hid (Src wr g A n c (4 + 4 * L.length)) ∧ Hid (BkAt wr w.heap.size b R F C N) ∧ Hid (wr.ownsRow (w.heap.size + 1) 53 2 v L.length (flat strokeC L)) ∧ Hid (GL b z L) ∧ Below B w wr ∧ w.heap.size + 1 < wr.heap.size) (fun _ _ k _ => (intOf k).toNat)
  case atStart => exact ⟨K, a0, [], by simp; omega, rfl, rfl, by omega, by simp; omega, HS2, HK2, Lib.hid (by have h := HO2.out; simp only [World.size_alloc] at h; exact h), Lib.hid (GL.nil _ _), hB2, by omega⟩
  case round =>
    obtain ⟨q, z, L, hq, rfl, rfl, z0, z1, hS, hK, hO, hGL, hBr, hsz⟩ := hrel
    rename World => wr
    by_cases hlt : 0 < q
    · obtain ⟨p0, p1, p2, p3, p4, _⟩ := cells5_of hK.out
      have t1 : decide ((0 : Int) < (q : Int)) = true := decide_eq_true (by omega)
      have HS3 := hS
      have HK3 := hK
      have HO3 := hO
      have HGL := hGL
      clear hS hK hO hGL
      go_wp2_with (go_at_call 44; refine (CM.out _).mono ?_; rintro r_ w' ⟨rfl, rfl⟩)
      refine (c_pick g A n c (4 + 4 * L.length) b _ HS3.out (by omega) hn (by omega) (by omega)).mono ?_
      rintro r_ w4 ⟨x, rfl, x0, x1, hS, hG⟩
      have hz4 := hG.size
      have hB4 : Below B w w4 := below_grown hBr hG hB (by omega)
      have HK4 : Hid (BkAt w4 w.heap.size b R F C N) := (hG.block w.heap.size (by omega) (by simp; omega)).trans HK3.out
      have HO4 := Lib.hid (own_mark HO3.out hG (own_ne_old HO3.out (by omega)))
      have HS4 := Lib.hid hS
      have HOW := Lib.hid (HO4.out.alloc (.cells #[.int .i64 x, .int .i64 z] 53))
      have HBW : Hid (Below (w.heap.size + 1) w4 (w4.alloc (.cells #[.int .i64 x, .int .i64 z] 53))) := Lib.hid ((Below.refl _ w4).alloc (by omega) _)
      clear hS hG p0 p1 p2 p3 p4
      go_wp2_with (at_builtin; refine appS (by rfl) (.tmp 26) (.tmp 28) _ (by rfl) (w.heap.size + 1) 53 _ 2 16 Try.underlying43 info_Stroke (by decide) (by decide) _ _ (by rfl) (by simp [Value.oneCell']) _ _ _ (by rfl) HOW.out (by rw [World.size_alloc]; rfl) (by omega) (by omega) (by have := HBW.out.size; omega) ?_; intro v5 w5 hown5 hb5 _; have HO5 := Lib.hid hown5; have HB5 := Lib.hid (HBW.out.trans hb5); clear hown5 hb5)
      have hz5 := HB5.out.size
      have HS5 := Lib.hid (HS4.out.below HB5.out (by omega) (fun b o e h => by have := HA.out b o e h; omega))
      have HK5 : Hid (BkAt w5 w.heap.size b R F C N) := (HB5.out.block w.heap.size (by omega)).trans HK4.out
      refine (c_pick g A n c (4 + 4 * L.length + 2) 8 _ HS5.out (by omega) hn (by omega) (by omega)).mono ?_
      rintro r_ w6 ⟨y, rfl, y0, y1, hS, hG⟩
      have hz6 := hG.size
      have hB6 : Below B w w6 := below_grown (hB4.trans (HB5.out.mono (by omega))) hG hB (by omega)
      have HK6 : Hid (BkAt w6 w.heap.size b R F C N) := (hG.block w.heap.size (by omega) (by simp; omega)).trans HK5.out
      have HO6 := Lib.hid (own_mark HO5.out hG (own_ne_old HO5.out (by omega)))
      have HS6 := Lib.hid hS
      clear hS hG
      go_wp2_with fail
      go_roundw
      case rel => exact ⟨q - 1, z + y, L ++ [(x, z)], by simp; omega, by go_num, by go_num, by omega, by simp; omega, Lib.hid (HS6.out.more (by simp; omega)), HK6, Lib.hid (by rw [flat_snoc, List.length_append]; exact HO6.out), Lib.hid (HGL.out.snoc x0 x1 z0 (by omega)), hB6, by omega⟩
      case measure => simp [intOf]; omega
    · obtain rfl : q = 0 := by omega
      obtain ⟨AA, cc, rfl⟩ := own_slice hO.out
      go_wp2_with fail
      go_ret
      exact ⟨L, AA, cc, rfl, ⟨rfl, strokeC_len, Rd.of_own hO.out⟩, by omega, ⟨fun s hs => by obtain ⟨p, q, r, u⟩ := hGL.out.1 s hs; exact ⟨p, q, r, by omega⟩, hGL.out.2⟩, hBr⟩
set_option maxHeartbeats 4000000 in
theorem c_A2Strokes (A : Option Addr) (n c : Nat) (b R F C N : Int) (w : World) (hb : Bys w A n) (hn : n ≤ 1099511627776) (b0 : 1 ≤ b) (b1 : b ≤ 16) :
    Calls Try.prog 17 #[.slice A n c, bkt b R F C N] w (StrokesP b w.heap.size w) := by
  have HS : Hid (∀ W : World, Below w.heap.size w W → Src (W.alloc (.cells #[.slice A n c, .int .i64 0, .int .u64 0] 73)) W.heap.size A n c 0) := fun W h => src_new (hb.later h)
  have HA := Lib.hid hb
  clear hb
  go_enter Try.func17, Try.ntmps17
  go_wp2_with fail
  have hK : BkAt (w.alloc (.cells #[.int .i64 b, .int .i64 R, .int .i64 F, .int .i64 C, .int .i64 N] 41)) w.heap.size b R F C N := by show _ = _; simp [World.alloc, -World.alloc_eq]
  have HX : Hid (Src ((w.alloc (.cells #[.int .i64 b, .int .i64 R, .int .i64 F, .int .i64 C, .int .i64 N] 41)).alloc (.cells #[.slice A n c, .int .i64 0, .int .u64 0] 73)) (w.heap.size + 1) A n c 0) := by
    have h := HS.out (w.alloc (.cells #[.int .i64 b, .int .i64 R, .int .i64 F, .int .i64 C, .int .i64 N] 41)) ((Below.refl _ w).alloc (Nat.le_refl _) _)
    rw [World.size_alloc] at h
    exact h
  have HKK : Hid (BkAt ((w.alloc (.cells #[.int .i64 b, .int .i64 R, .int .i64 F, .int .i64 C, .int .i64 N] 41)).alloc (.cells #[.slice A n c, .int .i64 0, .int .u64 0] 73)).drew w.heap.size b R F C N) := Lib.hid ((Below.heap_alloc _ _ _ (by simp)).trans hK)
  obtain ⟨q0, q1, q2, q3, q4, _⟩ := cells5_of hK
  clear hK
  go_region_held3 (fun w' => w'.cell? ⟨w.heap.size, 0, none⟩ = some (.int .i64 b) ∧ w'.cell? ⟨w.heap.size, 1, none⟩ = some (.int .i64 R) ∧ w'.cell? ⟨w.heap.size, 2, none⟩ = some (.int .i64 F) ∧ w'.cell? ⟨w.heap.size, 3, none⟩ = some (.int .i64 C) ∧ w'.cell? ⟨w.heap.size, 4, none⟩ = some (.int .i64 N)) (first | go_keep | exact ⟨q0, q1, q2, q3, q4⟩ | exact ⟨v0, v1, v2, v3, v4⟩)
    (first
      | (go_at_call 24; refine (c_l00From A n c _).mono ?_; rintro r_ w1 ⟨rfl, rfl⟩)
      | (go_at_call 33; refine (c_l03New _ A n c (w.heap.size + 1) b R F C N _ ?src hn ?hB ?hA b0 b1).mono ?_; (case src => exact HX.out.later (by (repeat' (first | (with_reducible exact Below.refl _ _) | (with_reducible assumption) | (with_reducible refine below_drewN ?_ _) | (with_reducible refine Below.drew ?_) | (with_reducible refine Below.alloc ?_ ?_ _) | (with_reducible refine Below.setCell ?_ ?_ _) | go_size)))); (case hB => simp [World.alloc, World.drew, -World.alloc_eq]); (case hA => intro b o e h; have := HA.out.lt b o e h; simp [World.alloc, World.drew, -World.alloc_eq]; omega); rintro r_ w2 ⟨L, A2, c2, rfl, hL, hl, hG, hB2⟩; obtain ⟨v0, v1, v2, v3, v4, _⟩ := cells5_of ((hB2.block w.heap.size (by omega)).trans HKK.out)))
  all_goals
    go_wp2_with fail
    go_ret
    exact ⟨L, A2, c2, rfl, hL, hl, hG, (by (repeat' (first | (with_reducible exact Below.refl _ _) | (with_reducible assumption) | (with_reducible refine below_drewN ?_ _) | (with_reducible refine Below.drew ?_) | (with_reducible refine Below.alloc ?_ ?_ _) | (with_reducible refine Below.setCell ?_ ?_ _) | go_size)) : Below w.heap.size w _).trans (hB2.mono (by omega))⟩
end Go.Proofs.Ytgigdipbfcffiaa
