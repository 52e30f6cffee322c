/- Contracts: the text that was typed. -/
import Derived.Test.YthgoofjojanakaaEr18
namespace Go.Proofs.Ythgoofjojanakaa
open Go.RowKit Go.BigFrame
attribute [local go_sem] sub_cell sub_frozen drewN_setCell

theorem typS_len {c : UInt8} {W X W' X' p : List UInt8} (h : typS c W X = some (W', X', p)) : p.length ≤ 2 := by
  unfold typS at h
  split at h
  · split at h <;> simp at h
    obtain ⟨-, -, rfl⟩ := h; simp
  split at h
  · split at h <;> simp at h
    obtain ⟨-, -, rfl⟩ := h; simp
  split at h
  · split at h <;> simp at h
    obtain ⟨-, -, rfl⟩ := h; simp
  split at h
  · split at h <;> simp at h
    obtain ⟨-, -, rfl⟩ := h; simp
  split at h
  · split at h <;> simp at h
    obtain ⟨-, -, rfl⟩ := h; simp
  cases h
theorem typF_len (s : List UInt8) : ∀ (W X o t r : List UInt8), typF s W X o = some (t, r) → t.length ≤ o.length + 2 * s.length := by
  induction s with
  | nil => intro W X o t r h; simp only [typF, Option.some.injEq, Prod.mk.injEq] at h; rw [← h.1]; simp
  | cons c s ih =>
    intro W X o t r h
    rw [typF] at h
    split at h
    · rename_i W' X' p hp
      have h1 := ih _ _ _ _ _ h
      have h2 := typS_len hp
      simp only [List.length_append, List.length_cons] at h1 ⊢
      omega
    · cases h
theorem typR_len (s W X : List UInt8) : (typR s W X).1.length ≤ 2 * s.length := by
  unfold typR
  split
  · rename_i t r h
    have := typF_len s W X [] t r h
    simpa using this
  · simp
def tfC (a s x : List UInt8) : Int := if twoC a x = 0 then (if stepsB s = true then (if (typR s a x).2 = true ∧ isAl a (typR s a x).1 s = true then (if (typR s a x).1.length ≤ 60 then 0 else 5) else 9) else 7) else 2
def tfA (a s x : List UInt8) : ByteArray := if tfC a s x = 0 then sb (typR s a x).1 else ⟨#[]⟩
theorem tf_bad {a s x : List UInt8} {v : Int} (h : tfC a s x = v) (hv : v ≠ 0) : tfA a s x = ⟨#[]⟩ := by rw [tfA, h, if_neg hv]
theorem tf_ok {a s x : List UInt8} (h : tfC a s x = 0) : tfA a s x = sb (typR s a x).1 := by rw [tfA, h, if_pos rfl]
theorem tf_cases (a s x : List UInt8) : (twoC a x = 2 ∧ tfC a s x = 2 ∧ (typB a = false ∨ typB a = true ∧ typB x = false)) ∨ (twoC a x = 0 ∧ typB a = true ∧ typB x = true ∧ stepsB s = false ∧ tfC a s x = 7) ∨
    (twoC a x = 0 ∧ typB a = true ∧ typB x = true ∧ stepsB s = true ∧ (typR s a x).2 = false ∧ tfC a s x = 9) ∨
    (twoC a x = 0 ∧ typB a = true ∧ typB x = true ∧ stepsB s = true ∧ (typR s a x).2 = true ∧ isAl a (typR s a x).1 s = false ∧ tfC a s x = 9) ∨
    (twoC a x = 0 ∧ typB a = true ∧ typB x = true ∧ stepsB s = true ∧ (typR s a x).2 = true ∧ isAl a (typR s a x).1 s = true ∧ 60 < (typR s a x).1.length ∧ tfC a s x = 5) ∨
    (twoC a x = 0 ∧ typB a = true ∧ typB x = true ∧ stepsB s = true ∧ (typR s a x).2 = true ∧ isAl a (typR s a x).1 s = true ∧ (typR s a x).1.length ≤ 60 ∧ tfC a s x = 0) := by
  rcases twoC_cases a x with ⟨h, t1, t2⟩ | ⟨h, hor⟩
  · right
    cases h1 : stepsB s
    · exact .inl ⟨h, t1, t2, rfl, by simp [tfC, h, h1]⟩
    right
    cases h2 : (typR s a x).2
    · exact .inl ⟨h, t1, t2, rfl, rfl, by simp [tfC, h, h1, h2]⟩
    right
    cases h3 : isAl a (typR s a x).1 s
    · exact .inl ⟨h, t1, t2, rfl, rfl, rfl, by simp [tfC, h, h1, h2, h3]⟩
    right
    by_cases h4 : (typR s a x).1.length ≤ 60
    · exact .inr ⟨h, t1, t2, rfl, rfl, rfl, h4, by simp [tfC, h, h1, h2, h3, h4]⟩
    · exact .inl ⟨h, t1, t2, rfl, rfl, rfl, by omega, by simp [tfC, h, h1, h2, h3, h4]⟩
  · exact .inl ⟨h, by simp [tfC, h], hor⟩
theorem steps_two {s : List UInt8} (h : stepsB s = true) : s.all isStepB = true ∧ s.length ≤ 120 := by
  simp only [stepsB, Bool.and_eq_true, decide_eq_true_eq] at h
  exact h
attribute [local go_sem] sb_size sb_toList mt_toList cons_beq_nil nil_beq_nil
set_option maxHeartbeats 4000000 in
theorem c_sTypedFrom (a s x : ByteArray) (w : World) (ha : a.size ≤ maxLen) (hs : s.size ≤ maxLen) (hx : x.size ≤ maxLen) :
    Calls Try.prog 30 #[.string a, .string s, .string x] w fun e w' => e = .returned (.tuple #[.string (tfA (bl a) (bl s) (bl x)), .int .i64 (tfC (bl a) (bl s) (bl x))]) ∧ Below w.heap.size w w' := by
  rcases tf_cases (bl a) (bl s) (bl x) with ⟨h, hc, _⟩ | ⟨h, t1, t2, h1, hc⟩ | ⟨h, t1, t2, h1, h2, hc⟩ | ⟨h, t1, t2, h1, h2, h3, hc⟩ | ⟨h, t1, t2, h1, h2, h3, h4, hc⟩ | ⟨h, t1, t2, h1, h2, h3, h4, hc⟩
  · rw [tf_bad hc (by decide), hc]
    have H := Lib.hid h
    clear h hc
    go_enter Try.func30, Try.ntmps30
    go_wp2_with (go_at_call 41; refine (c_l19Two _ _ _ H.out _ ha hx).mono ?_; rintro r_ w' ⟨rfl, rfl⟩)
    go_returns
    exact ⟨rfl, Below.refl _ _⟩
  · rw [tf_bad hc (by decide), hc]
    have H := Lib.hid h
    have H1 := Lib.hid h1
    clear h h1 hc t1 t2
    go_enter Try.func30, Try.ntmps30
    go_wp2_with (first | (go_at_call 41; refine (c_l19Two _ _ _ H.out _ ha hx).mono ?_; rintro r_ w' ⟨rfl, rfl⟩) | (go_at_call 37; refine (c_l19Steps _ _ H1.out _ hs).mono ?_; rintro r_ w' ⟨rfl, rfl⟩))
    go_returns
    exact ⟨rfl, Below.refl _ _⟩
  · rw [tf_bad hc (by decide), hc]
    have n1 := typB_len t1
    have n2 := typB_len t2
    obtain ⟨s1, s2⟩ := steps_two h1
    rw [bl_len] at s2
    have tl := typR_len (bl s) (bl a) (bl x)
    rw [bl_len] at tl
    obtain ⟨t, ht⟩ : ∃ t, (typR (bl s) (bl a) (bl x)).1 = t := ⟨_, rfl⟩
    rw [ht] at tl
    have C : Hid (∀ W : World, Calls Try.prog 51 #[.string a, .string s, .string x] W fun e w' => e = .returned (.tuple #[.string (sb t), .bool false]) ∧ Below W.heap.size W w') := fun W => by
      have h9 := c_l19Typed (bl a) (bl x) s t false (Prod.ext ht h2) s1 W (by rw [bl_len]; omega) (by rw [bl_len]; omega) (by omega)
      rw [sb_bl, sb_bl] at h9
      exact h9
    have H := Lib.hid h
    have H1 := Lib.hid h1
    clear h h1 h2 hc t1 t2 ht s1
    go_enter Try.func30, Try.ntmps30
    go_wp2_with (first | (go_at_call 41; refine (c_l19Two _ _ _ H.out _ ha hx).mono ?_; rintro r_ w' ⟨rfl, rfl⟩) | (go_at_call 37; refine (c_l19Steps _ _ H1.out _ hs).mono ?_; rintro r_ w' ⟨rfl, rfl⟩) | (go_at_call 51; refine (C.out _).mono ?_; rintro r_ w1 ⟨rfl, hb1⟩; have hz1 := hb1.size))
    go_returns
    exact ⟨rfl, hb1⟩
  · rw [tf_bad hc (by decide), hc]
    have n1 := typB_len t1
    have n2 := typB_len t2
    obtain ⟨s1, s2⟩ := steps_two h1
    rw [bl_len] at s2
    have tl := typR_len (bl s) (bl a) (bl x)
    rw [bl_len] at tl
    obtain ⟨t, ht⟩ : ∃ t, (typR (bl s) (bl a) (bl x)).1 = t := ⟨_, rfl⟩
    rw [ht] at h3 tl
    have C : Hid (∀ W : World, Calls Try.prog 51 #[.string a, .string s, .string x] W fun e w' => e = .returned (.tuple #[.string (sb t), .bool true]) ∧ Below W.heap.size W w') := fun W => by
      have h9 := c_l19Typed (bl a) (bl x) s t true (Prod.ext ht h2) s1 W (by rw [bl_len]; omega) (by rw [bl_len]; omega) (by omega)
      rw [sb_bl, sb_bl] at h9
      exact h9
    have I : Hid (∀ W : World, Calls Try.prog 45 #[.string a, .string (sb t), .string s] W fun e w' => e = .returned (.bool false) ∧ Below W.heap.size W w') := fun W => by
      have h9 := c_l19Is (bl a) t s false h3 s1 W (by rw [bl_len]; omega) (by omega) (by omega)
      rw [sb_bl] at h9
      exact h9
    have H := Lib.hid h
    have H1 := Lib.hid h1
    clear h h1 h2 hc t1 t2 ht s1 h3
    go_enter Try.func30, Try.ntmps30
    go_wp2_with (first | (go_at_call 41; refine (c_l19Two _ _ _ H.out _ ha hx).mono ?_; rintro r_ w' ⟨rfl, rfl⟩) | (go_at_call 37; refine (c_l19Steps _ _ H1.out _ hs).mono ?_; rintro r_ w' ⟨rfl, rfl⟩) | (go_at_call 51; refine (C.out _).mono ?_; rintro r_ w1 ⟨rfl, hb1⟩; have hz1 := hb1.size) | (go_at_call 45; refine (I.out _).mono ?_; rintro r_ w2 ⟨rfl, hb2⟩; have hb12 := hb1.trans (hb2.mono hz1)))
    go_returns
    exact ⟨rfl, hb12⟩
  · rw [tf_bad hc (by decide), hc]
    have n1 := typB_len t1
    have n2 := typB_len t2
    obtain ⟨s1, s2⟩ := steps_two h1
    rw [bl_len] at s2
    have tl := typR_len (bl s) (bl a) (bl x)
    rw [bl_len] at tl
    obtain ⟨t, ht⟩ : ∃ t, (typR (bl s) (bl a) (bl x)).1 = t := ⟨_, rfl⟩
    rw [ht] at h3 h4 tl
    have C : Hid (∀ W : World, Calls Try.prog 51 #[.string a, .string s, .string x] W fun e w' => e = .returned (.tuple #[.string (sb t), .bool true]) ∧ Below W.heap.size W w') := fun W => by
      have h9 := c_l19Typed (bl a) (bl x) s t true (Prod.ext ht h2) s1 W (by rw [bl_len]; omega) (by rw [bl_len]; omega) (by omega)
      rw [sb_bl, sb_bl] at h9
      exact h9
    have I : Hid (∀ W : World, Calls Try.prog 45 #[.string a, .string (sb t), .string s] W fun e w' => e = .returned (.bool true) ∧ Below W.heap.size W w') := fun W => by
      have h9 := c_l19Is (bl a) t s true h3 s1 W (by rw [bl_len]; omega) (by omega) (by omega)
      rw [sb_bl] at h9
      exact h9
    have h5 : (60 : Int) < (t.length : Int) := by omega
    have H := Lib.hid h
    have H1 := Lib.hid h1
    clear h h1 h2 hc t1 t2 ht s1 h3
    go_enter Try.func30, Try.ntmps30
    go_wp2_with (first | (go_at_call 41; refine (c_l19Two _ _ _ H.out _ ha hx).mono ?_; rintro r_ w' ⟨rfl, rfl⟩) | (go_at_call 37; refine (c_l19Steps _ _ H1.out _ hs).mono ?_; rintro r_ w' ⟨rfl, rfl⟩) | (go_at_call 51; refine (C.out _).mono ?_; rintro r_ w1 ⟨rfl, hb1⟩; have hz1 := hb1.size) | (go_at_call 45; refine (I.out _).mono ?_; rintro r_ w2 ⟨rfl, hb2⟩; have hb12 := hb1.trans (hb2.mono hz1)))
    go_returns
    exact ⟨rfl, hb12⟩
  · rw [tf_ok hc, hc]
    have n1 := typB_len t1
    have n2 := typB_len t2
    obtain ⟨s1, s2⟩ := steps_two h1
    rw [bl_len] at s2
    have tl := typR_len (bl s) (bl a) (bl x)
    rw [bl_len] at tl
    obtain ⟨t, ht⟩ : ∃ t, (typR (bl s) (bl a) (bl x)).1 = t := ⟨_, rfl⟩
    rw [ht] at h3 h4 tl ⊢
    have C : Hid (∀ W : World, Calls Try.prog 51 #[.string a, .string s, .string x] W fun e w' => e = .returned (.tuple #[.string (sb t), .bool true]) ∧ Below W.heap.size W w') := fun W => by
      have h9 := c_l19Typed (bl a) (bl x) s t true (Prod.ext ht h2) s1 W (by rw [bl_len]; omega) (by rw [bl_len]; omega) (by omega)
      rw [sb_bl, sb_bl] at h9
      exact h9
    have I : Hid (∀ W : World, Calls Try.prog 45 #[.string a, .string (sb t), .string s] W fun e w' => e = .returned (.bool true) ∧ Below W.heap.size W w') := fun W => by
      have h9 := c_l19Is (bl a) t s true h3 s1 W (by rw [bl_len]; omega) (by omega) (by omega)
      rw [sb_bl] at h9
      exact h9
    have h5 : ¬ (60 : Int) < (t.length : Int) := by omega
    have H := Lib.hid h
    have H1 := Lib.hid h1
    clear h h1 h2 hc t1 t2 ht s1 h3
    go_enter Try.func30, Try.ntmps30
    go_wp2_with (first | (go_at_call 41; refine (c_l19Two _ _ _ H.out _ ha hx).mono ?_; rintro r_ w' ⟨rfl, rfl⟩) | (go_at_call 37; refine (c_l19Steps _ _ H1.out _ hs).mono ?_; rintro r_ w' ⟨rfl, rfl⟩) | (go_at_call 51; refine (C.out _).mono ?_; rintro r_ w1 ⟨rfl, hb1⟩; have hz1 := hb1.size) | (go_at_call 45; refine (I.out _).mono ?_; rintro r_ w2 ⟨rfl, hb2⟩; have hb12 := hb1.trans (hb2.mono hz1)))
    go_returns
    exact ⟨rfl, hb12⟩
end Go.Proofs.Ythgoofjojanakaa
