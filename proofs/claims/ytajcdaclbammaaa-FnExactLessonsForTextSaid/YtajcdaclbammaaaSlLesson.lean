/- Slices of Lesson, each with a row of numbers of its own: sizes, mirrors, comparison. -/
import Derived.Test.YtajcdaclbammaaaTi
import Derived.Test.YtajcdaclbammaaaLo
import Derived.Test.YtajcdaclbammaaaAp
import Derived.Test.YtajcdaclbammaaaZs
namespace Go.Proofs.Ytajcdaclbammaaa
open Go.RowKit Go.BigFrame
attribute [local go_sem] sub_cell sub_frozen drewN_setCell

/-- Name, letters, needs, hours. -/
abbrev TLesson := ByteArray × ByteArray × List Int × Int
/-- A lesson's cells as they lie in memory: the row of numbers by its place. -/
abbrev RLesson := ByteArray × ByteArray × (Option Addr × Nat × Nat) × Int
def lessonC (x : RLesson) : List Value := [.string x.1, .string x.2.1, .slice x.2.2.1.1 x.2.2.1.2.1 x.2.2.1.2.2, .int .i64 x.2.2.2]
theorem lessonC_len (x : RLesson) : (lessonC x).length = 4 := rfl
def lessonW (x : TLesson) : Nat := x.1.size + x.2.1.size + x.2.2.1.length
/-- One lesson's cells and what they stand for. -/
def LesAt (w : World) (r : RLesson) (x : TLesson) : Prop := r.1 = x.1 ∧ r.2.1 = x.2.1 ∧ r.2.2.2 = x.2.2.2 ∧ Zs w r.2.2.1.1 r.2.2.1.2.1 x.2.2.1
/-- A slice of lessons that is read. -/
def Ls (w : World) (A : Option Addr) (n : Nat) (l : List TLesson) : Prop :=
  ∃ R : List RLesson, Sl lessonC w w.heap.size 4 A n R ∧ R.length = l.length ∧ ∀ (k : Nat) (r : RLesson) (x : TLesson), R[k]? = some r → l[k]? = some x → LesAt w r x
section
variable {w wr : World} {A : Option Addr} {n k : Nat} {l : List TLesson}
theorem Ls.len (h : Ls w A n l) : l.length = n := by
  obtain ⟨R, h1, h2, _⟩ := h
  rw [← h2]; exact h1.1
theorem Ls.later (h : Ls w A n l) (hb : Below w.heap.size w wr) : Ls wr A n l := by
  obtain ⟨R, h1, h2, h3⟩ := h
  refine ⟨R, h1.later hb, h2, fun k r x hr hx => ?_⟩
  obtain ⟨a1, a2, a3, a4⟩ := h3 k r x hr hx
  exact ⟨a1, a2, a3, a4.later hb⟩
theorem les_at (h : Ls w A n l) (hb : Below w.heap.size w wr) (hk : k < n) :
    ∃ b o nm lt S m c z hr, A = some ⟨b, o, none⟩ ∧ b < wr.heap.size ∧ b < w.heap.size ∧ l[k]? = some (nm, lt, z, hr) ∧ wr.cell? ⟨b, o + k * 4, none⟩ = some (.string nm) ∧ wr.cell? ⟨b, o + k * 4 + 1, none⟩ = some (.string lt) ∧
      wr.cell? ⟨b, o + k * 4 + 2, none⟩ = some (.slice S m c) ∧ wr.cell? ⟨b, o + k * 4 + 3, none⟩ = some (.int .i64 hr) ∧ Zs wr S m z := by
  have hln := h.len
  obtain ⟨R, h1, h2, h3⟩ := h
  obtain ⟨b, o, ⟨u0, u1, ⟨S, m, c⟩, u3⟩, hA, hlt, hx, hc⟩ := h1.at_ hk
  have hkl : k < l.length := by omega
  obtain ⟨⟨nm, lt, z, hr⟩, hl⟩ : ∃ x, l[k]? = some x := ⟨l[k], List.getElem?_eq_getElem hkl⟩
  obtain ⟨a1, a2, a3, a4⟩ := h3 k _ _ hx hl
  simp only at a1 a2 a3 a4
  subst a1 a2 a3
  have := hb.size
  exact ⟨b, o, _, _, S, m, c, z, _, hA, by omega, hlt, hl, (hb.cell (p := ⟨b, o + k * 4, none⟩) hlt).trans (hc 0 _ rfl), (hb.cell (p := ⟨b, o + k * 4 + 1, none⟩) hlt).trans (hc 1 _ rfl), (hb.cell (p := ⟨b, o + k * 4 + 2, none⟩) hlt).trans (hc 2 _ rfl), (hb.cell (p := ⟨b, o + k * 4 + 3, none⟩) hlt).trans (hc 3 _ rfl), a4.later hb⟩
theorem les_atB {b o : Nat} (h : Ls w (some ⟨b, o, none⟩) n l) (hb : Below w.heap.size w wr) (hk : k < n) :
    ∃ nm lt S m c z hr, b < wr.heap.size ∧ b < w.heap.size ∧ l[k]? = some (nm, lt, z, hr) ∧ wr.cell? ⟨b, o + k * 4, none⟩ = some (.string nm) ∧ wr.cell? ⟨b, o + k * 4 + 1, none⟩ = some (.string lt) ∧
      wr.cell? ⟨b, o + k * 4 + 2, none⟩ = some (.slice S m c) ∧ wr.cell? ⟨b, o + k * 4 + 3, none⟩ = some (.int .i64 hr) ∧ Zs wr S m z := by
  obtain ⟨b', o', nm, lt, S, m, c, z, hr, hA, r⟩ := les_at h hb hk
  simp only [Option.some.injEq, Addr.mk.injEq, and_true] at hA
  obtain ⟨rfl, rfl⟩ := hA
  exact ⟨nm, lt, S, m, c, z, hr, r⟩
end
/-- The sizes of all that came in. -/
def LsSz (l : List TLesson) : Prop := ∀ x ∈ l, x.1.size ≤ maxLen ∧ x.2.1.size ≤ maxLen ∧ x.2.2.1.length ≤ maxLen

set_option maxHeartbeats 400000 in
theorem c_szInt64S (A : Option Addr) (n c : Nat) (left r : Int) (h : szV n left = r) (hl : 0 ≤ left) (hl2 : left ≤ 1048576) (hn : n ≤ maxLen) (w : World) :
    Calls Try.prog 55 #[.slice A n c, .int .i64 left] w fun e w' => e = .returned (.int .i64 r) ∧ w = w' := by
  subst h
  unfold maxLen at hn
  by_cases h : left - n < 0
  · rw [szV_neg h]
    go_enter Try.func55, Try.ntmps55
    go_wp2_with fail
    go_ret
    exact ⟨rfl, rfl⟩
  · rw [szV_pos (by omega)]
    go_enter Try.func55, Try.ntmps55
    go_wp2_with fail
    go_ret
    exact ⟨rfl, rfl⟩
set_option maxHeartbeats 1000000 in
theorem c_szLesson (nm lt : ByteArray) (S : Option Addr) (m c : Nat) (hr : Int) (left r : Int) (h : szV (nm.size + lt.size + m) left = r) (hl : 0 ≤ left) (hl2 : left ≤ 1048576) (h0 : nm.size ≤ maxLen) (h1 : lt.size ≤ maxLen) (h2 : m ≤ maxLen) (w : World) :
    Calls Try.prog 29 #[.agg #[.string nm, .string lt, .slice S m c, .int .i64 hr], .int .i64 left] w fun e w' => e = .returned (.int .i64 r) ∧ Below w.heap.size w w' := by
  subst h
  have H2 := Lib.hid h2
  unfold maxLen at h0 h1 h2
  by_cases q0 : left - (nm.size : Int) < 0
  · rw [szV_neg (by omega)]
    go_enter Try.func29, Try.ntmps29
    go_wp2_with fail
    go_ret
    exact ⟨rfl, by (repeat' (first | (with_reducible exact Below.refl _ _) | (with_reducible assumption) | (with_reducible refine below_drewN ?_ _) | (with_reducible refine Below.drew ?_) | (with_reducible refine Below.alloc ?_ ?_ _) | (with_reducible refine Below.setCell ?_ ?_ _) | go_size))⟩
  by_cases q1 : left - (nm.size : Int) - (lt.size : Int) < 0
  · rw [szV_neg (by omega)]
    go_enter Try.func29, Try.ntmps29
    go_wp2_with fail
    go_ret
    exact ⟨rfl, by (repeat' (first | (with_reducible exact Below.refl _ _) | (with_reducible assumption) | (with_reducible refine below_drewN ?_ _) | (with_reducible refine Below.drew ?_) | (with_reducible refine Below.alloc ?_ ?_ _) | (with_reducible refine Below.setCell ?_ ?_ _) | go_size))⟩
  by_cases q2 : left - (nm.size : Int) - (lt.size : Int) - (m : Int) < 0
  · rw [szV_neg (by omega)]
    have C := Lib.hid (fun W => c_szInt64S S m c (left - (nm.size : Int) - (lt.size : Int)) _ (szV_neg q2) (by omega) (by omega) H2.out W)
    go_enter Try.func29, Try.ntmps29
    go_wp2_with (go_at_call 55; refine (C.out _).mono ?_; rintro r_ w' ⟨rfl, rfl⟩)
    go_ret
    exact ⟨rfl, by (repeat' (first | (with_reducible exact Below.refl _ _) | (with_reducible assumption) | (with_reducible refine below_drewN ?_ _) | (with_reducible refine Below.drew ?_) | (with_reducible refine Below.alloc ?_ ?_ _) | (with_reducible refine Below.setCell ?_ ?_ _) | go_size))⟩
  rw [szV_pos (by omega)]
  have C := Lib.hid (fun W => c_szInt64S S m c (left - (nm.size : Int) - (lt.size : Int)) _ (szV_pos (by omega)) (by omega) (by omega) H2.out W)
  have q3 : ¬ left - (nm.size : Int) - (lt.size : Int) - (m : Int) < 0 := q2
  go_enter Try.func29, Try.ntmps29
  go_wp2_with (go_at_call 55; refine (C.out _).mono ?_; rintro r_ w' ⟨rfl, rfl⟩)
  go_ret
  exact ⟨ret_int (by omega), by (repeat' (first | (with_reducible exact Below.refl _ _) | (with_reducible assumption) | (with_reducible refine below_drewN ?_ _) | (with_reducible refine Below.drew ?_) | (with_reducible refine Below.alloc ?_ ?_ _) | (with_reducible refine Below.setCell ?_ ?_ _) | go_size))⟩
set_option maxHeartbeats 2000000 in
theorem c_szLessonS (A : Option Addr) (n c : Nat) (l : List TLesson) (left r : Int) (w : World) (ha : Ls w A n l) (hs : LsSz l) (hn : n ≤ maxLen) (hl : 0 ≤ left) (hl2 : left ≤ 1048576) (h : szV (n + sumW lessonW l) left = r) :
    Calls Try.prog 9 #[.slice A n c, .int .i64 left] w fun e w' => e = .returned (.int .i64 r) ∧ Below w.heap.size w w' := by
  subst h
  unfold maxLen at hn
  have HS := Lib.hid hs
  have HL := Lib.hid ha.len
  have HA := Lib.hid ha
  clear hs ha
  by_cases h : left - n < 0
  · rw [szV_neg (by omega)]
    go_enter Try.func9, Try.ntmps9
    go_wp2_with fail
    go_ret
    exact ⟨rfl, Below.refl _ _⟩
  · go_enter Try.func9, Try.ntmps9
    go_wp2_with fail
    go_loopw [1, 5] (fun q i wr => ∃ k : Nat, ∃ v : Int, k ≤ n ∧ i = .int .i64 k ∧ q = .int .i64 v ∧ 0 ≤ v ∧ v ≤ 1048576 ∧ Below w.heap.size w wr ∧ Hid (v = left - n - (sumW lessonW (l.take k) : Nat))) (fun _ i _ => n - (intOf i).toNat)
    case atStart => exact ⟨0, left - n, Nat.zero_le _, rfl, rfl, by omega, by omega, Below.refl _ _, by show left - n = _; simp [sumW]⟩
    case round =>
      obtain ⟨k, v, hk, rfl, rfl, hv0, hv1, hB, hv⟩ := hrel
      have hz := hB.size
      by_cases hlt : k < n
      · obtain ⟨b, o, nm, lt, S, m, cc, z, hr, rfl, hb1, hb2, hx, c0, c1, c2, c3, hzs⟩ := les_at HA.out hB hlt
        have h1 := HS.out _ (List.mem_of_getElem? hx)
        have hzl := hzs.1
        have hst := sumW_step (f := lessonW) hx
        rw [show lessonW (nm, lt, z, hr) = nm.size + lt.size + z.length from rfl, hzl] at hst
        have h13 := h1.2.2
        simp only at h13
        rw [hzl] at h13
        have hst2 := sumW_le (f := lessonW) l (k + 1)
        have HX := Lib.hid hx
        have HV := hv
        clear hx hv hzs hzl
        cases hq : decide (v - ((nm.size + lt.size + m : Nat) : Int) < 0)
        · have hq' : 0 ≤ v - ((nm.size + lt.size + m : Nat) : Int) := by simpa using hq
          have H1 := Lib.hid (fun W => c_szLesson nm lt S m cc hr v _ (szV_pos hq') hv0 hv1 h1.1 h1.2.1 h13 W)
          have hu : (0 : Int) ≤ ((nm.size + lt.size + m : Nat) : Int) := by omega
          have hnn : ¬ (v - ((nm.size + lt.size + m : Nat) : Int) < 0) := by omega
          have HST := Lib.hid hst
          clear hst hst2 hq h1 h13
          go_wp2_with (go_at_call 29; refine (H1.out _).mono ?_; rintro r_ w1 ⟨rfl, hb1⟩; have hB1 := later hb1 (w := w) (by (repeat' (first | (with_reducible exact Below.refl _ _) | (with_reducible assumption) | (with_reducible refine below_drewN ?_ _) | (with_reducible refine Below.drew ?_) | (with_reducible refine Below.alloc ?_ ?_ _) | (with_reducible refine Below.setCell ?_ ?_ _) | go_size))))
          go_roundw
          case rel => exact ⟨k + 1, _, by omega, by go_num, rfl, hq', by omega, hB1, by have e1 := HST.out; have e2 := HV.out; show v - _ = _; omega⟩
          case measure => simp [intOf]; omega
        · have hq' : v - ((nm.size + lt.size + m : Nat) : Int) < 0 := by simpa using hq
          have H1 := Lib.hid (fun W => c_szLesson nm lt S m cc hr v _ (szV_neg hq') hv0 hv1 h1.1 h1.2.1 h13 W)
          have hfin : left - ((n + sumW lessonW l : Nat) : Int) < 0 := by
            have e2 := HV.out
            omega
          have HF := Lib.hid hfin
          clear hst hst2 hq h1 hfin h13
          go_wp2_with (go_at_call 29; refine (H1.out _).mono ?_; rintro r_ w1 ⟨rfl, hb1⟩; have hB1 := later hb1 (w := w) (by (repeat' (first | (with_reducible exact Below.refl _ _) | (with_reducible assumption) | (with_reducible refine below_drewN ?_ _) | (with_reducible refine Below.drew ?_) | (with_reducible refine Below.alloc ?_ ?_ _) | (with_reducible refine Below.setCell ?_ ?_ _) | go_size))))
          go_ret
          exact ⟨by rw [szV_neg HF.out]; rfl, hB1⟩
      · go_wp2_with fail
        go_ret
        obtain rfl : k = n := by omega
        have e2 := hv.out
        rw [List.take_of_length_le (by rw [HL.out]; omega)] at e2
        exact ⟨by rw [szV_pos (by omega)]; exact ret_int (by omega), hB⟩
set_option maxHeartbeats 1000000 in
theorem c_eqLesson (nm lt : ByteArray) (S S' : Option Addr) (m c c' : Nat) (z : List Int) (hr : Int) (w : World) (h : Zs w S m z) (h' : Zs w S' m z) (hm : m ≤ 4611686018427387904) :
    Calls Try.prog 35 #[.agg #[.string nm, .string lt, .slice S m c, .int .i64 hr], .agg #[.string nm, .string lt, .slice S' m c', .int .i64 hr]] w fun r w' => r = .returned (.bool true) ∧ Below w.heap.size w w' := by
  have t0 := txt_eq (show nm = nm from rfl)
  have t1 := txt_eq (show lt = lt from rfl)
  have C := Lib.hid (fun (W : World) (hW : Below w.heap.size w W) => c_eqInt64S S S' m c c' z W (h.later hW) (h'.later hW) hm)
  clear h h'
  go_enter Try.func35, Try.ntmps35
  go_wp2_with (go_at_call 17; refine (C.out _ (by (repeat' (first | (with_reducible exact Below.refl _ _) | (with_reducible assumption) | (with_reducible refine below_drewN ?_ _) | (with_reducible refine Below.drew ?_) | (with_reducible refine Below.alloc ?_ ?_ _) | (with_reducible refine Below.setCell ?_ ?_ _) | go_size)))).mono ?_; rintro r_ w1 ⟨rfl, hb1⟩; have hB1 := later hb1 (w := w) (by (repeat' (first | (with_reducible exact Below.refl _ _) | (with_reducible assumption) | (with_reducible refine below_drewN ?_ _) | (with_reducible refine Below.drew ?_) | (with_reducible refine Below.alloc ?_ ?_ _) | (with_reducible refine Below.setCell ?_ ?_ _) | go_size))); have k0 : w1.cell? ⟨w.heap.size, 3, none⟩ = some (.int .i64 hr) := (hb1.cell (p := ⟨w.heap.size, 3, none⟩) (by simp; omega)).trans (by simp [go_sem]); have k1 : w1.cell? ⟨w.heap.size + 1, 3, none⟩ = some (.int .i64 hr) := (hb1.cell (p := ⟨w.heap.size + 1, 3, none⟩) (by simp)).trans (by simp [go_sem]); clear hb1)
  go_ret
  exact ⟨rfl, hB1⟩
set_option maxHeartbeats 1000000 in
theorem c_eqLessonS (A B : Option Addr) (n c d : Nat) (l : List TLesson) (w : World) (ha : Ls w A n l) (hb : Ls w B n l) (hsz : ∀ x ∈ l, x.2.2.1.length ≤ 4611686018427387904) (hn : n ≤ 4611686018427387904) :
    Calls Try.prog 13 #[.slice A n c, .slice B n d] w fun r w' => r = .returned (.bool true) ∧ Below w.heap.size w w' := by
  have HA := Lib.hid ha
  have HB := Lib.hid hb
  have HS := Lib.hid hsz
  clear ha hb hsz
  go_enter Try.func13, Try.ntmps13
  go_wp2_with fail
  go_loopw [5] (fun i wr => ∃ k : Nat, k ≤ n ∧ i = .int .i64 k ∧ Below w.heap.size w wr) (fun i _ => n - (intOf i).toNat)
  case atStart => exact ⟨0, Nat.zero_le _, rfl, Below.refl _ _⟩
  case round =>
    obtain ⟨k, hk, rfl, hB⟩ := hrel
    by_cases hlt : k < n
    · obtain ⟨b, o, nm, lt, S, m, cc, z, hr, rfl, hb1, hb2, hx, c0, c1, c2, c3, hzs⟩ := les_at HA.out hB hlt
      obtain ⟨b', o', nm', lt', S', m', cc', z', hr', rfl, hb1', hb2', hx', c0', c1', c2', c3', hzs'⟩ := les_at HB.out hB hlt
      rw [hx] at hx'
      simp only [Option.some.injEq, Prod.mk.injEq] at hx'
      obtain ⟨rfl, rfl, rfl, rfl⟩ := hx'
      have hm1 := hzs.1
      have hm2 := hzs'.1
      obtain rfl : m = m' := by omega
      have h13 := HS.out _ (List.mem_of_getElem? hx)
      simp only at h13
      have hz := hB.size
      have C := Lib.hid (fun (W : World) (hW : Below wr.heap.size wr W) => c_eqLesson nm lt S S' m cc cc' z hr W (hzs.later hW) (hzs'.later hW) (by omega))
      clear hx hzs hzs' h13 hm1 hm2
      go_wp2_with fail
      refine wp_region_below (by kernel_rfl) (by kernel_rfl) ?_
      repeat (go_big_quiet_step ((go_at_call 35; refine qBg (C.out _ (Later.h _)) (by simp) ?_; intro w_ h_; (first | exact h_ | exact h_.below))))
      refine wpQuiet_nil ?_
      intro _ hw'
      obtain ⟨⟨w9, hb9⟩, hw''⟩ := hw'
      subst hw''
      have hB1 := hB.trans (hb9.mono hz)
      go_wp2_with fail
      go_roundw
      case rel => exact ⟨k + 1, by omega, by go_num, hB1⟩
      case measure => simp [intOf]; omega
    · go_wp2_with fail
      go_ret
      exact ⟨rfl, hB⟩

theorem info_Lesson : (Try.prog.info? 51).map (fun i => (i.zero, i.size, i.bytes)) = some (some (.agg #[.string ByteArray.empty, .string ByteArray.empty, .slice none 0 0, .int .i64 0]), 4, 64) := by kernel_rfl
/-- The cells of lessons whose rows of numbers lie in the blocks gs. -/
def rawL (l : List TLesson) (gs : List Nat) : List RLesson := List.zipWith (fun x g => (x.1, x.2.1, (some ⟨g, 0, none⟩, x.2.2.1.length, x.2.2.1.length), x.2.2.2)) l gs
theorem rawL_get {l : List TLesson} {gs : List Nat} {k g : Nat} {x : TLesson} (hx : l[k]? = some x) (hg : gs[k]? = some g) : (rawL l gs)[k]? = some (x.1, x.2.1, (some ⟨g, 0, none⟩, x.2.2.1.length, x.2.2.1.length), x.2.2.2) := by
  simp [rawL, List.getElem?_zipWith, hx, hg]
theorem rawL_len {l : List TLesson} {gs : List Nat} (h : gs.length ≤ l.length) : (rawL l gs).length = gs.length := by simp [rawL]; omega
theorem rawL_snoc {l : List TLesson} {gs : List Nat} {g : Nat} {x : TLesson} (hx : l[gs.length]? = some x) : rawL l (gs ++ [g]) = rawL l gs ++ [(x.1, x.2.1, (some ⟨g, 0, none⟩, x.2.2.1.length, x.2.2.1.length), x.2.2.2)] := by
  have hl := (List.getElem?_eq_some_iff.1 hx).1
  apply List.ext_getElem?
  intro i
  rcases Nat.lt_trichotomy i gs.length with h | h | h
  · rw [List.getElem?_append_left (by rw [rawL_len (by omega)]; exact h)]
    simp only [rawL, List.getElem?_zipWith, List.getElem?_append_left h]
  · subst h
    rw [rawL_get (g := g) hx (by simp), List.getElem?_append_right (by rw [rawL_len (by omega)]; exact Nat.le_refl _), rawL_len (by omega)]
    simp
  · rw [List.getElem?_eq_none (by rw [rawL_len (by simp; omega)]; simp; omega), List.getElem?_eq_none (by rw [List.length_append, rawL_len (by omega)]; simp; omega)]
theorem flat_append {α : Type} (f : α → List Value) (a b : List α) : flat f (a ++ b) = flat f a ++ flat f b := by simp [flat]
theorem lesson_fill {w : World} {g : Nat} {e : TypeId} {m k : Nat} {z : Nat → Value} {R : List RLesson} {u0 u1 : ByteArray} {S : Option Addr} {p q : Nat} {u3 : Int} (hR : R.length = k)
    (h : w.rowIs g e m (fun i => if i < k * 4 then (flat lessonC R)[i]?.getD undef else z i)) :
    (((((w.setCell ⟨g, k * 4, none⟩ (.string u0)).setCell ⟨g, k * 4 + 1, none⟩ (.string u1)).setCell ⟨g, k * 4 + 2, none⟩ (.slice S p q)).setCell ⟨g, k * 4 + 3, none⟩ (.int .i64 u3))).rowIs g e m (fun i => if i < (k + 1) * 4 then (flat lessonC (R ++ [(u0, u1, (S, p, q), u3)]))[i]?.getD undef else z i) := by
  have hx : (R ++ [(u0, u1, (S, p, q), u3)])[k]? = some (u0, u1, (S, p, q), u3) := by subst hR; simp
  have hfl : (flat lessonC R).length = k * 4 := by rw [flat_length lessonC_len, hR]
  have e0 := flat_get (f := lessonC) lessonC_len (j := 0) hx rfl
  have e1 := flat_get (f := lessonC) lessonC_len (j := 1) hx rfl
  have e2 := flat_get (f := lessonC) lessonC_len (j := 2) hx rfl
  have e3 := flat_get (f := lessonC) lessonC_len (j := 3) hx rfl
  refine ((((h.set _ _).set _ _).set _ _).set _ _).congr fun i _ => ?_
  by_cases h3 : i = k * 4 + 3
  · subst h3; rw [if_pos rfl, if_pos (by omega), e3]; rfl
  rw [if_neg h3]
  by_cases h2 : i = k * 4 + 2
  · subst h2; rw [if_pos rfl, if_pos (by omega), e2]; rfl
  rw [if_neg h2]
  by_cases h1 : i = k * 4 + 1
  · subst h1; rw [if_pos rfl, if_pos (by omega), e1]; rfl
  rw [if_neg h1]
  by_cases h0 : i = k * 4
  · subst h0; rw [if_pos rfl, if_pos (by omega), show (flat lessonC (R ++ [(u0, u1, (S, p, q), u3)]))[k * 4]? = _ from e0]; rfl
  rw [if_neg h0]
  by_cases hk : i < k * 4
  · rw [if_pos hk, if_pos (by omega), flat_append, List.getElem?_append_left (by omega)]
  · rw [if_neg hk, if_neg (by omega)]

theorem own_far {w : World} {base n sz : Nat} {e : TypeId} {v : Value} {xs : List Value} {a : Addr} (h : w.ownsRow base e sz v n xs) (ha : a.block < base) (u : Value) : (w.setCell a u).ownsRow base e sz v n xs := ownsRow_setCell_other h (own_ne_old h ha) u
set_option maxHeartbeats 1000000 in
theorem c_toLesson (nm lt : ByteArray) (S : Option Addr) (m c : Nat) (z : List Int) (hr : Int) (w : World) (hz : Zs w S m z) (hm : m ≤ 1048576) :
    Calls Try.prog 32 #[.agg #[.string nm, .string lt, .slice S m c, .int .i64 hr]] w fun r w' => ∃ g, w.heap.size ≤ g ∧ g < w'.heap.size ∧ r = .returned (.agg #[.string nm, .string lt, .slice (some ⟨g, 0, none⟩) z.length z.length, .int .i64 hr]) ∧ w'.ownsRow w.heap.size 2 1 (.slice (some ⟨g, 0, none⟩) z.length z.length) z.length (z.map (Value.int .i64)) ∧ Below w.heap.size w w' := by
  obtain rfl : z.length = m := hz.1
  have HZ := Lib.hid hz
  clear hz
  go_enter Try.func32, Try.ntmps32
  go_wp2_with (go_at_call 15; refine (c_toInt64S S z.length c z _ (HZ.out.later (by (repeat' (first | (with_reducible exact Below.refl _ _) | (with_reducible assumption) | (with_reducible refine below_drewN ?_ _) | (with_reducible refine Below.drew ?_) | (with_reducible refine Below.alloc ?_ ?_ _) | (with_reducible refine Below.setCell ?_ ?_ _) | go_size)))) hm).mono ?_; rintro r_ w1 ⟨rfl, o1, b1⟩; have O1 := Lib.hid (OwnSl.own (base := w.heap.size + 3) o1 rfl (by simp) (by simp only [maxLen]; omega)); obtain ⟨k0, k1⟩ := bcell b1; have hb1 := later b1 (w := w) (by (repeat' (first | (with_reducible exact Below.refl _ _) | (with_reducible assumption) | (with_reducible refine below_drewN ?_ _) | (with_reducible refine Below.drew ?_) | (with_reducible refine Below.alloc ?_ ?_ _) | (with_reducible refine Below.setCell ?_ ?_ _) | go_size))); have hz1 := o1.lt; simp only [World.size_alloc, World.size_setCell] at k0 k1 hz1; clear o1 b1)
  refine bodyPost_ret (by simp [results, Try.results32, go_sem, *]; try rfl) rfl ?_
  refine ⟨w.heap.size + 1 + 1 + 1, by omega, by simpa using hz1, rfl, own_base (base := w.heap.size + 3) ?_ (by omega), by (repeat' (first | (with_reducible exact Below.refl _ _) | (with_reducible assumption) | (with_reducible refine below_drewN ?_ _) | (with_reducible refine Below.drew ?_) | (with_reducible refine Below.alloc ?_ ?_ _) | (with_reducible refine Below.setCell ?_ ?_ _) | go_size))⟩
  repeat (refine own_far ?_ (by first | omega | (dsimp only; omega)) _)
  have h9 := O1.out
  simp only [World.size_alloc] at h9
  exact h9

/-- Lessons that the call itself has made: block G, and a block of its own for each row of numbers. -/
structure OwnLs (w : World) (G : Nat) (l : List TLesson) (gs : List Nat) : Prop where
  row : OwnSl lessonC w G 51 4 (rawL l gs)
  len : gs.length = l.length
  own : ∀ (j g : Nat) (x : TLesson), gs[j]? = some g → l[j]? = some x → w.ownsRow (G + 1) 2 1 (.slice (some ⟨g, 0, none⟩) x.2.2.1.length x.2.2.1.length) x.2.2.1.length (x.2.2.1.map (Value.int .i64))
  inc : gs.Pairwise (· < ·)
theorem rawL_getInv {l : List TLesson} {gs : List Nat} {k : Nat} {r : RLesson} (hr : (rawL l gs)[k]? = some r) : ∃ x g, l[k]? = some x ∧ gs[k]? = some g ∧ r = (x.1, x.2.1, (some ⟨g, 0, none⟩, x.2.2.1.length, x.2.2.1.length), x.2.2.2) := by
  simp only [rawL, List.getElem?_zipWith] at hr
  cases hx : l[k]? with
  | none => rw [hx] at hr; cases hr
  | some x =>
    cases hg : gs[k]? with
    | none => rw [hx, hg] at hr; cases hr
    | some g => rw [hx, hg] at hr; injection hr with hr; exact ⟨x, g, rfl, rfl, hr.symm⟩
theorem OwnLs.ls {w : World} {G n : Nat} {l : List TLesson} {gs : List Nat} (h : OwnLs w G l gs) (hn : l.length = n) : Ls w (some ⟨G, 0, none⟩) n l := by
  have hr := rawL_len (l := l) (gs := gs) (by rw [h.len]; exact Nat.le_refl _)
  refine ⟨rawL l gs, ?_, by rw [hr, h.len], fun k r x h1 h2 => ?_⟩
  · have := h.row.sl
    rwa [hr, h.len, hn] at this
  · obtain ⟨x', g, hx, hg, rfl⟩ := rawL_getInv h1
    rw [h2] at hx
    obtain rfl : x = x' := by simpa using hx
    exact ⟨rfl, rfl, rfl, zs_ownN (h.own k g x hg h2)⟩
theorem OwnLs.later {w w' : World} {G : Nat} {l : List TLesson} {gs : List Nat} (h : OwnLs w G l gs) (hb : Below w.heap.size w w') : OwnLs w' G l gs :=
  ⟨h.row.later hb, h.len, fun j g x h1 h2 => own_below (h.own j g x h1 h2) hb, h.inc⟩
theorem OwnLs.lt {w : World} {G : Nat} {l : List TLesson} {gs : List Nat} (h : OwnLs w G l gs) : G < w.heap.size := h.row.lt

set_option maxHeartbeats 4000000 in
theorem c_toLessonS (A : Option Addr) (n c : Nat) (l : List TLesson) (w : World) (ha : Ls w A n l) (hn : n ≤ 1048576) (hsz : ∀ x ∈ l, x.2.2.1.length ≤ 1048576) :
    Calls Try.prog 11 #[.slice A n c] w fun r w' => r = .returned (.slice (some ⟨w.heap.size, 0, none⟩) n n) ∧ (∃ gs, OwnLs w' w.heap.size l gs) ∧ Below w.heap.size w w' := by
  have hmk := run_make_any (P := Try.prog) 26 51 _ 4 64 Try.underlying26 info_Lesson .i64 .i64 n (by omega) (by omega)
  have HL := Lib.hid ha.len
  have HA := Lib.hid ha
  have HS := Lib.hid hsz
  clear ha hsz
  go_enter Try.func11, Try.ntmps11
  go_wp2_with fail
  go_loopw [4] (fun i wr => ∃ k : Nat, k ≤ n ∧ i = .int .i64 k ∧ Below w.heap.size w wr ∧ ∃ gs : List Nat, gs.length = k ∧ wr.rowIs w.heap.size 51 (n * 4) (fun i => if i < k * 4 then (flat lessonC (rawL l gs))[i]?.getD undef else (Value.cells (.agg #[.string ByteArray.empty, .string ByteArray.empty, .slice none 0 0, .int .i64 0]))[i % (Value.cells (.agg #[.string ByteArray.empty, .string ByteArray.empty, .slice none 0 0, .int .i64 0])).size]!) ∧ Hid (∀ (j g : Nat) (x : TLesson), gs[j]? = some g → l[j]? = some x → wr.ownsRow (w.heap.size + 1) 2 1 (.slice (some ⟨g, 0, none⟩) x.2.2.1.length x.2.2.1.length) x.2.2.1.length (x.2.2.1.map (Value.int .i64))) ∧ Hid (gs.Pairwise (· < ·) ∧ ∀ g ∈ gs, g < wr.heap.size)) (fun i _ => n - (intOf i).toNat)
  case atStart => exact ⟨0, Nat.zero_le _, rfl, by (repeat' (first | (with_reducible exact Below.refl _ _) | (with_reducible assumption) | (with_reducible refine below_drewN ?_ _) | (with_reducible refine Below.drew ?_) | (with_reducible refine Below.alloc ?_ ?_ _) | (with_reducible refine Below.setCell ?_ ?_ _) | go_size)), [], rfl, (rowIs_made _ _ _).congr fun i _ => (if_neg (by omega)).symm, Lib.hid (by simp), Lib.hid (by simp)⟩
  case round =>
    obtain ⟨k, hk, rfl, hB, gs, hgs, hrow, hown, hinc⟩ := hrel
    by_cases hlt : k < n
    · obtain ⟨b, o, nm, lt, S, m, cc, z, hr, rfl, hb1, hb2, hx, c0, c1, c2, c3, hzs⟩ := les_at HA.out hB hlt
      have hz := hB.size
      have hg := hrow.lt
      obtain rfl : z.length = m := hzs.1
      have hm := HS.out _ (List.mem_of_getElem? hx)
      simp only at hm
      have C := Lib.hid (c_toLesson nm lt S z.length cc z hr wr hzs hm)
      have HX := Lib.hid hx
      have HR := Lib.hid hrow
      clear hx hrow hmk hzs
      go_wp2_with (go_at_call 32; refine C.out.mono ?_; rintro r_ w1 ⟨g, hg1, hg2, rfl, ho1, hb3⟩; have HR1 := Lib.hid (HR.out.of_block (hb3.block _ hg)); obtain ⟨v0, r0⟩ : ∃ v, w1.cell? ⟨w.heap.size, k * 4, none⟩ = some v := ⟨_, HR1.out.cell (by omega)⟩; obtain ⟨v1, r1⟩ : ∃ v, w1.cell? ⟨w.heap.size, k * 4 + 1, none⟩ = some v := ⟨_, HR1.out.cell (by omega)⟩; obtain ⟨v2, r2⟩ : ∃ v, w1.cell? ⟨w.heap.size, k * 4 + 2, none⟩ = some v := ⟨_, HR1.out.cell (by omega)⟩; obtain ⟨v3, r3⟩ : ∃ v, w1.cell? ⟨w.heap.size, k * 4 + 3, none⟩ = some v := ⟨_, HR1.out.cell (by omega)⟩; have f0 := HR1.out.frozen (k * 4); have f1 := HR1.out.frozen (k * 4 + 1); have f2 := HR1.out.frozen (k * 4 + 2); have f3 := HR1.out.frozen (k * 4 + 3); have HO1 := Lib.hid ho1; have HB3 := Lib.hid hb3; have hg3 : w.heap.size < w1.heap.size := (by omega); clear ho1 hb3)
      have HSN := Lib.hid (rawL_snoc (gs := gs) (g := g) (hgs ▸ HX.out))
      have hfl : (rawL l gs).length = k := by rw [rawL_len (by rw [HL.out]; omega)]; exact hgs
      go_roundw
      case rel =>
        refine ⟨k + 1, by omega, by go_num, ?_, gs ++ [g], by simp [hgs], ?_, Lib.hid ?_, Lib.hid ?_⟩
        · have hB1 := hB.trans (HB3.out.mono hz)
          (repeat' (first | (with_reducible exact Below.refl _ _) | (with_reducible assumption) | (with_reducible refine below_drewN ?_ _) | (with_reducible refine Below.drew ?_) | (with_reducible refine Below.alloc ?_ ?_ _) | (with_reducible refine Below.setCell ?_ ?_ _) | go_size))
        · rw [HSN.out]
          exact lesson_fill hfl HR1.out
        · intro j g' x h1 h2
          refine own_far (own_far (own_far (own_far ?_ (by dsimp only; omega) _) (by dsimp only; omega) _) (by dsimp only; omega) _) (by dsimp only; omega) _
          by_cases hj : j < gs.length
          · rw [List.getElem?_append_left hj] at h1
            exact own_below (hown.out j g' x h1 h2) HB3.out
          · have hj2 : j = k := by
              have := (List.getElem?_eq_some_iff.1 h1).1
              simp at this
              omega
            subst hj2
            rw [List.getElem?_append_right (by omega), hgs] at h1
            simp at h1
            subst h1
            rw [HX.out] at h2
            simp only [Option.some.injEq] at h2
            subst h2
            exact own_base HO1.out (by omega)
        · refine ⟨List.pairwise_append.2 ⟨hinc.out.1, by simp, fun a ha b hb => ?_⟩, fun a ha => ?_⟩
          · have := hinc.out.2 a ha
            rw [List.mem_singleton.1 hb]; omega
          · simp only [World.size_setCell]
            rcases List.mem_append.1 ha with ha | ha
            · have := hinc.out.2 a ha
              have := HB3.out.size
              omega
            · rw [List.mem_singleton.1 ha]; exact hg2
      case measure => simp [intOf]; omega
    · have hkn : k = n := by omega
      subst hkn
      have HR := Lib.hid hrow
      clear hrow
      go_wp2_with fail
      go_ret
      have hrl : (rawL l gs).length = k := by rw [rawL_len (by rw [HL.out]; omega)]; exact hgs
      refine ⟨rfl, ⟨gs, ⟨⟨lessonC_len, ?_⟩, by rw [HL.out, hgs], hown.out, hinc.out.1⟩⟩, hB⟩
      rw [hrl]
      exact HR.out.congr fun i hi => by rw [if_pos (by omega)]

open Go.ChangeShapes Go.WideShapes Go.Deep
def InLesson (w : World) (A : Option Addr) (n : Nat) (l : List TLesson) : Prop := Ls w A n l ∧ LsSz l ∧ n ≤ maxLen
theorem choose_list {α β : Type} {R : List α} {P : α → β → Prop} (h : ∀ r ∈ R, ∃ x, P r x) : ∃ l : List β, l.length = R.length ∧ ∀ (k : Nat) (r : α) (x : β), R[k]? = some r → l[k]? = some x → P r x := by
  induction R with
  | nil => exact ⟨[], rfl, fun k r x h => by simp at h⟩
  | cons a R ih =>
    obtain ⟨x, hx⟩ := h a (by simp)
    obtain ⟨l, hl, hP⟩ := ih fun r hr => h r (by simp [hr])
    refine ⟨x :: l, by simp [hl], fun k r y h1 h2 => ?_⟩
    cases k with
    | zero => simp at h1 h2; subst h1; subst h2; exact hx
    | succ k => exact hP k r y (by simpa using h1) (by simpa using h2)
theorem lessons_of {H : Type} {enc : TypeId × Value → H} {w : World} {spare : Nat → Bool} {held : Bool} {A : Option Addr} {n c : Nat} {d : DataW H} {p : List MemPlace}
    (h : DataW.Trod enc Try.prog w 0 spare held 22 (.slice A n c) d p) : ∃ l, InLesson w A n l := by
  obtain ⟨fuel, hf⟩ := h
  simp only [Value.cells] at hf
  obtain ⟨R, h1, h2, h3⟩ := sl_of_trod lessonC 4 (by omega) (fun r : RLesson => ∃ x : TLesson, LesAt w r x ∧ (x.1.size ≤ maxLen ∧ x.2.1.size ≤ maxLen ∧ x.2.2.1.length ≤ maxLen)) Try.underlying22 (by kernel_rfl) lessonC_len (fun fuel cs y hy => by
    obtain ⟨hl, hj⟩ := fields_of_trod Try.underlying48 (by kernel_rfl) (by kernel_rfl) hy
    obtain ⟨v0, z0, n0, e0, t0⟩ := hj 0 _ rfl
    obtain ⟨v1, z1, n1, e1, t1⟩ := hj 1 _ rfl
    obtain ⟨v2, z2, n2, e2, t2⟩ := hj 2 _ rfl
    obtain ⟨v3, z3, n3, e3, t3⟩ := hj 3 _ rfl
    obtain ⟨u0, hs0, _, ws0⟩ := DataW.trod_string Try.underlying9 t0
    obtain ⟨u1, hs1, _, ws1⟩ := DataW.trod_string Try.underlying9 t1
    obtain ⟨u3, hs3, _, ws3⟩ := DataW.trod_int Try.underlying2 t3
    obtain ⟨S, m, cc, hs2, z, hz⟩ : ∃ S m cc, v2 = .slice S m cc ∧ ∃ z, InZ w S m z := by
      rcases open_slice Try.underlying30 t2 with ⟨h0, _⟩ | ⟨a, len, cap, m, k, D, Pl, h0, hb, hl, hm, hmm, hx, hi⟩
      · simp only [List.cons.injEq, and_true] at h0
        subst h0
        exact ⟨_, _, _, rfl, intsIn_of ⟨n2, t2⟩⟩
      · simp only [List.cons.injEq, and_true] at h0
        subst h0
        exact ⟨_, _, _, rfl, intsIn_of ⟨n2, t2⟩⟩
    simp only [List.cons.injEq, and_true] at hs0 hs1 hs3
    subst hs0 hs1 hs2 hs3
    refine ⟨(u0, u1, (S, m, cc), u3), ?_, (u0, u1, z, u3), ⟨rfl, rfl, rfl, hz.1⟩, ws0, ws1, by have := hz.1.1; have := hz.2.2; simp only; omega⟩
    match cs, hl with
    | [c0, c1, c2, c3], _ => simp at e0 e1 e2 e3; simp [lessonC, e0, e1, e2, e3]) hf
  obtain ⟨l, hl, hP⟩ := choose_list h2
  refine ⟨l, ⟨R, h1, hl.symm, fun k r x hr hx => (hP k r x hr hx).1⟩, fun x hx => ?_, h3⟩
  obtain ⟨k, hk⟩ := List.getElem?_of_mem hx
  have hkl := (List.getElem?_eq_some_iff.1 hk).1
  exact (hP k _ x (List.getElem?_eq_getElem (by omega)) hk).2
end Go.Proofs.Ytajcdaclbammaaa
