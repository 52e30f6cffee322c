/- Contracts: alignments. -/
import Derived.Test.YthgoofjojanakaaEr1
import Derived.Test.YthgoofjojanakaaSb
namespace Go.Proofs.Ythgoofjojanakaa
open Go.RowKit Go.BigFrame
attribute [local go_sem] sub_cell sub_frozen drewN_setCell

abbrev typB (l : List UInt8) : Bool := textB 32 60 l
theorem c_isTyped (s : ByteArray) (r : Bool) (h : typB (bl s) = r) (w : World) (hs : s.size ≤ maxLen) :
    Calls Try.prog 43 #[.string s] w fun e w' => e = .returned (.bool r) ∧ w = w' := by
  go_enter Try.func43, Try.ntmps43
  go_wp2_with (go_at_call 57; refine (c_isText s 32 60 r h _ hs).mono ?_; rintro r_ w' ⟨rfl, rfl⟩)
  go_returns
  exact ⟨rfl, rfl⟩
theorem c_l19Text (s : ByteArray) (r : Bool) (h : typB (bl s) = r) (w : World) (hs : s.size ≤ maxLen) :
    Calls Try.prog 50 #[.string s] w fun e w' => e = .returned (.bool r) ∧ w = w' := by
  go_enter Try.func50, Try.ntmps50
  go_wp2_with (go_at_call 59; refine (c_l00Text s 60 r h _ hs).mono ?_; rintro r_ w' ⟨rfl, rfl⟩)
  go_returns
  exact ⟨rfl, rfl⟩
def twoC (a b : List UInt8) : Int := if typB a && typB b then 0 else 2
theorem c_l19Two (s t : ByteArray) (v : Int) (h : twoC (bl s) (bl t) = v) (w : World) (hs : s.size ≤ maxLen) (ht : t.size ≤ maxLen) :
    Calls Try.prog 41 #[.string s, .string t] w fun e w' => e = .returned (.int .i64 v) ∧ w = w' := by
  subst h
  cases h1 : typB (bl s)
  · have H1 := Lib.hid h1
    have hv : twoC (bl s) (bl t) = 2 := by simp [twoC, h1]
    rw [hv]
    clear h1 hv
    go_enter Try.func41, Try.ntmps41
    go_wp2_with (go_at_call 50; refine (c_l19Text _ _ H1.out _ hs).mono ?_; rintro r_ w' ⟨rfl, rfl⟩)
    go_returns
    exact ⟨rfl, rfl⟩
  · cases h2 : typB (bl t)
    · have H1 := Lib.hid h1
      have H2 := Lib.hid h2
      have hv : twoC (bl s) (bl t) = 2 := by simp [twoC, h2]
      rw [hv]
      clear h1 h2 hv
      go_enter Try.func41, Try.ntmps41
      go_wp2_with (go_at_call 50; first | (refine (c_l19Text s _ H1.out _ hs).mono ?_; rintro r_ w' ⟨rfl, rfl⟩) | (refine (c_l19Text t _ H2.out _ ht).mono ?_; rintro r_ w' ⟨rfl, rfl⟩))
      go_returns
      exact ⟨rfl, rfl⟩
    · have H1 := Lib.hid h1
      have H2 := Lib.hid h2
      have hv : twoC (bl s) (bl t) = 0 := by simp [twoC, h1, h2]
      rw [hv]
      clear h1 h2 hv
      go_enter Try.func41, Try.ntmps41
      go_wp2_with (go_at_call 50; first | (refine (c_l19Text s _ H1.out _ hs).mono ?_; rintro r_ w' ⟨rfl, rfl⟩) | (refine (c_l19Text t _ H2.out _ ht).mono ?_; rintro r_ w' ⟨rfl, rfl⟩))
      go_returns
      exact ⟨rfl, rfl⟩

/-- How far a step goes. -/
def stD (c : UInt8) : Nat := if c = 61 ∨ c = 120 ∨ c = 45 then 1 else if c = 126 then 2 else 0
def stK (c : UInt8) : Nat := if c = 61 ∨ c = 120 ∨ c = 43 then 1 else if c = 126 then 2 else 0
def stE (c : UInt8) : Nat := if c = 120 ∨ c = 45 ∨ c = 43 ∨ c = 126 then 1 else 0
/-- Whether a step can be made. -/
def stO (w t : List UInt8) (c : UInt8) : Bool :=
  if c = 61 then (match w, t with | a :: _, b :: _ => a == b | _, _ => false)
  else if c = 120 then (match w, t with | a :: _, b :: _ => !(a == b) | _, _ => false)
  else if c = 45 then (match w with | _ :: _ => true | _ => false)
  else if c = 43 then (match t with | _ :: _ => true | _ => false)
  else if c = 126 then (match w, t with | a :: b :: _, a' :: b' :: _ => !(a == b) && (a == b' && b == a') | _, _ => false)
  else false
def isAl : List UInt8 → List UInt8 → List UInt8 → Bool
  | w, t, [] => w.isEmpty && t.isEmpty
  | w, t, c :: cs => stO w t c && isAl (w.drop (stD c)) (t.drop (stK c)) cs

theorem stC (c : UInt8) : c = 61 ∨ c = 120 ∨ c = 45 ∨ c = 43 ∨ c = 126 ∨ (((c.toNat : Int) == 61) = false ∧ ((c.toNat : Int) == 120) = false ∧ ((c.toNat : Int) == 45) = false ∧ ((c.toNat : Int) == 43) = false ∧ ((c.toNat : Int) == 126) = false ∧ stD c = 0 ∧ stK c = 0 ∧ stE c = 0 ∧ ∀ W T, stO W T c = false) := by
  by_cases h1 : c = 61
  · exact .inl h1
  by_cases h2 : c = 120
  · exact .inr (.inl h2)
  by_cases h3 : c = 45
  · exact .inr (.inr (.inl h3))
  by_cases h4 : c = 43
  · exact .inr (.inr (.inr (.inl h4)))
  by_cases h5 : c = 126
  · exact .inr (.inr (.inr (.inr (.inl h5))))
  refine .inr (.inr (.inr (.inr (.inr ⟨(u8_lit (c := 61) rfl).trans (beq_eq_false_iff_ne.2 h1), (u8_lit (c := 120) rfl).trans (beq_eq_false_iff_ne.2 h2), (u8_lit (c := 45) rfl).trans (beq_eq_false_iff_ne.2 h3), (u8_lit (c := 43) rfl).trans (beq_eq_false_iff_ne.2 h4), (u8_lit (c := 126) rfl).trans (beq_eq_false_iff_ne.2 h5), ?_, ?_, ?_, ?_⟩))))
  all_goals simp [stD, stK, stE, stO, h1, h2, h3, h4, h5]

attribute [local go_sem] sb_size sb_get0 sb_get1 sb_toList mt_toList cons_beq_nil nil_beq_nil List.length_cons List.length_nil u8_eq u8_ne
set_option maxHeartbeats 2000000 in
theorem c_stepAt (W T : List UInt8) (c : UInt8) (o : Bool) (d k e : Nat) (ho : stO W T c = o) (hd : stD c = d) (hk : stK c = k) (he : stE c = e) (w : World) (hW : W.length ≤ 4611686018427387904) (hT : T.length ≤ 4611686018427387904) :
    Calls Try.prog 58 #[.string (sb W), .string (sb T), .int .u8 (c.toNat : Int)] w fun r w' => r = .returned (.tuple #[.int .i64 (d : Int), .int .i64 (k : Int), .int .i64 (e : Int), .bool o]) ∧ Draws w w' := by
  subst ho hd hk he
  rcases stC c with rfl | rfl | rfl | rfl | rfl | ⟨q1, q2, q3, q4, q5, e1, e2, e3, e4⟩
  · rcases W with _ | ⟨a, W⟩ <;> rcases T with _ | ⟨b, T⟩
    rotate_right
    · cases f1 : (a == b)
      all_goals
        go_enter Try.func58, Try.ntmps58
        go_wp2_with fail
        go_quiet (fail)
        go_wp2_with fail
        go_returns
        exact ⟨by have g1 := f1; simp at g1; simp [stO, stD, stK, stE, u8int, f1, g1], ⟨_, rfl⟩⟩
    all_goals
      go_enter Try.func58, Try.ntmps58
      go_wp2_with fail
      go_quiet (fail)
      go_wp2_with fail
      go_returns
      exact ⟨by simp [stO, stD, stK, stE], ⟨_, rfl⟩⟩
  · rcases W with _ | ⟨a, W⟩ <;> rcases T with _ | ⟨b, T⟩
    rotate_right
    · cases f1 : (a == b)
      all_goals
        go_enter Try.func58, Try.ntmps58
        go_wp2_with fail
        go_quiet (fail)
        go_wp2_with fail
        go_returns
        exact ⟨by have g1 := f1; simp at g1; simp [stO, stD, stK, stE, u8int, f1, g1], ⟨_, rfl⟩⟩
    all_goals
      go_enter Try.func58, Try.ntmps58
      go_wp2_with fail
      go_quiet (fail)
      go_wp2_with fail
      go_returns
      exact ⟨by simp [stO, stD, stK, stE], ⟨_, rfl⟩⟩
  · rcases W with _ | ⟨a, W⟩ <;> rcases T with _ | ⟨b, T⟩
    all_goals
      go_enter Try.func58, Try.ntmps58
      go_wp2_with fail
      go_returns
      exact ⟨by simp [stO, stD, stK, stE], draws_refl _⟩
  · rcases W with _ | ⟨a, W⟩ <;> rcases T with _ | ⟨b, T⟩
    all_goals
      go_enter Try.func58, Try.ntmps58
      go_wp2_with fail
      go_returns
      exact ⟨by simp [stO, stD, stK, stE], draws_refl _⟩
  · rcases W with _ | ⟨a, _ | ⟨b, W⟩⟩ <;> rcases T with _ | ⟨a', _ | ⟨b', T⟩⟩ <;> simp only [List.length_cons, List.length_nil] at hW hT <;> (try have hW2 : (1 : Int) < ((W.length + 1 + 1 : Nat) : Int) := by omega) <;> (try have hT2 : (1 : Int) < ((T.length + 1 + 1 : Nat) : Int) := by omega) <;> (try have hW3 : (1 : Int) < (W.length : Int) + 1 + 1 := by omega) <;> (try have hT3 : (1 : Int) < (T.length : Int) + 1 + 1 := by omega)
    rotate_right
    · cases f1 : (a == b) <;> cases f2 : (a == b') <;> cases f3 : (b == a')
      all_goals
        go_enter Try.func58, Try.ntmps58
        go_wp2_with fail
        go_quiet (fail)
        go_wp2_with fail
        go_returns
        exact ⟨by have g1 := f1; have g2 := f2; have g3 := f3; simp at g1 g2 g3; simp [stO, stD, stK, stE, u8int, f1, f2, f3, g1, g2, g3]; try (subst g2; subst g3; exact g1), ⟨_, rfl⟩⟩
    all_goals
      go_enter Try.func58, Try.ntmps58
      go_wp2_with fail
      go_quiet (fail)
      go_wp2_with fail
      go_returns
      exact ⟨by simp [stO, stD, stK, stE], ⟨_, rfl⟩⟩
  · rcases W with _ | ⟨a, W⟩ <;> rcases T with _ | ⟨b, T⟩
    all_goals
      rw [e1, e2, e3, e4]
      clear e1 e2 e3 e4
      go_enter Try.func58, Try.ntmps58
      go_wp2_with fail
      go_returns
      exact ⟨rfl, draws_refl _⟩
end Go.Proofs.Ythgoofjojanakaa
