/- Contracts: numbers read from texts. -/
import Derived.Test.YtldhhbnochlmlaaDoorDc
import Derived.Test.YtldhhbnochlmlaaDoorNm
import Derived.Test.YtldhhbnochlmlaaDoorSplt
namespace Go.Proofs.YtldhhbnochlmlaaDoor
open Go.RowKit Go.BigFrame
attribute [local go_sem] sub_cell sub_frozen drewN_setCell

/-- A text without its sign. -/
def numD (l : List UInt8) : List UInt8 := match l with
  | [] => []
  | a :: r => if a = 45 then r else a :: r
def valD (l : List UInt8) : Nat := l.foldl (fun n c => n * 10 + (c.toNat - 48)) 0
def numN (l : List UInt8) : Int := if (numD l).length < l.length then -(valD (numD l) : Int) else (valD (numD l) : Int)
/-- The number that a text is. -/
def numV (l : List UInt8) : Option Int :=
  if 1 ≤ (numD l).length ∧ (numD l).length ≤ 18 ∧ (numD l).all digB = true then (if Lib.itoa (numN l) = l then some (numN l) else none) else none
theorem valD_snoc (l : List UInt8) (c : UInt8) : valD (l ++ [c]) = valD l * 10 + (c.toNat - 48) := by simp [valD]
theorem digB_val {c : UInt8} (h : digB c = true) : ∃ r, c.toNat = 48 + r ∧ r < 10 := by
  simp only [digB, Bool.and_eq_true, decide_eq_true_eq] at h
  exact ⟨c.toNat - 48, by omega, by omega⟩
theorem valD_lt : ∀ (n : Nat) (l : List UInt8), l.length = n → l.all digB = true → valD l < 10 ^ n := by
  intro n
  induction n with
  | zero => intro l hl _; rw [List.eq_nil_of_length_eq_zero hl]; decide
  | succ n ih =>
    intro l hl h
    obtain ⟨a, c, rfl⟩ : ∃ a c, l = a ++ [c] := by
      refine ⟨l.dropLast, l.getLast (by intro e; rw [e] at hl; simp at hl), ?_⟩
      rw [List.dropLast_concat_getLast]
    rw [List.all_append, Bool.and_eq_true] at h
    have h1 := ih a (by simpa using hl) h.1
    obtain ⟨r, hr, hr2⟩ := digB_val (c := c) (by simpa using h.2)
    rw [valD_snoc, hr, Nat.pow_succ]
    omega
theorem valD_17 {l : List UInt8} (h : l.all digB = true) (hl : l.length ≤ 17) : valD l < 100000000000000000 := by
  have h1 := valD_lt _ l rfl h
  have h2 : 10 ^ l.length ≤ 10 ^ 17 := Nat.pow_le_pow_right (by decide) hl
  have h3 : (10 : Nat) ^ 17 = 100000000000000000 := by decide
  omega
theorem valD_18 {l : List UInt8} (h : l.all digB = true) (hl : l.length ≤ 18) : valD l < 1000000000000000000 := by
  have h1 := valD_lt _ l rfl h
  have h2 : 10 ^ l.length ≤ 10 ^ 18 := Nat.pow_le_pow_right (by decide) hl
  have h3 : (10 : Nat) ^ 18 = 1000000000000000000 := by decide
  omega
theorem numD_minus {l : List UInt8} (h : l[0]? = some 45) : numD l = l.drop 1 := by
  cases l with
  | nil => simp at h
  | cons a r => simp at h; subst h; simp [numD]
theorem numD_plain {l : List UInt8} (h : l[0]? ≠ some 45) : numD l = l := by
  cases l with
  | nil => rfl
  | cons a r => simp at h; simp [numD, h]
theorem numV_short {l : List UInt8} (h : ¬ (1 ≤ (numD l).length ∧ (numD l).length ≤ 18)) : numV l = none := by
  unfold numV; rw [if_neg (fun h1 => h ⟨h1.1, h1.2.1⟩)]
theorem numV_bad {l : List UInt8} {k : Nat} {c : UInt8} (h : (numD l)[k]? = some c) (hc : digB c = false) : numV l = none := by
  unfold numV
  rw [if_neg]
  rintro ⟨_, _, h3⟩
  have := List.all_eq_true.1 h3 c (List.mem_of_getElem? h)
  rw [hc] at this; cases this
theorem numV_end {l : List UInt8} (h1 : 1 ≤ (numD l).length) (h2 : (numD l).length ≤ 18) (h3 : (numD l).all digB = true) : numV l = if Lib.itoa (numN l) = l then some (numN l) else none := by
  unfold numV; rw [if_pos ⟨h1, h2, h3⟩]
/-- Behind k digits: the number so far. -/
structure NumInv (d : List UInt8) (k : Nat) (n : Nat) : Prop where
  all : (d.take k).all digB = true
  val : n = valD (d.take k)
theorem NumInv.start (d : List UInt8) : NumInv d 0 0 := ⟨rfl, rfl⟩
theorem NumInv.step {d : List UInt8} {k n r : Nat} {c : UInt8} (h : NumInv d k n) (hc : d[k]? = some c) (hd : digB c = true) (hr : c.toNat = 48 + r) : NumInv d (k + 1) (n * 10 + r) := by
  have e : d.take (k + 1) = d.take k ++ [c] := by rw [List.take_add_one, hc]; rfl
  refine ⟨by rw [e, List.all_append, h.all]; simp [hd], ?_⟩
  rw [e, valD_snoc, ← h.val, hr]; omega
theorem NumInv.lt {d : List UInt8} {k n : Nat} (h : NumInv d k n) (hk : k ≤ 17) : n < 100000000000000000 := by
  rw [h.val]; exact valD_17 h.all (by rw [List.length_take]; omega)
theorem NumInv.done {d : List UInt8} {k n : Nat} (h : NumInv d k n) (hk : d.length ≤ k) : d.all digB = true ∧ n = valD d := by
  have h1 := h.all
  have h2 := h.val
  rw [List.take_of_length_le hk] at h1 h2
  exact ⟨h1, h2⟩
/-- The number and whether there is one. -/
def numT (o : Option Int) : Value := .tuple #[.int .i64 (o.getD 0), .bool o.isSome]
theorem conv_digit (r : Nat) (hr : r < 10) (W : World) : (convert 5 2 (.int .u8 (r : Int))).run Tryd.prog W = .ok (.int .i64 (r : Int)) W := by
  have h5 : Tryd.prog.intKind 2 = .i64 := by kernel_rfl
  rw [run_convert_int (P := Tryd.prog) W 5 2 .u8 _ (by rw [Tryd.underlying5]; rfl) (by rw [h5]; exact Tryd.underlying2), h5]
  rw [IntWalk.i64_in _ (by omega)]
theorem bytes_ne {s : ByteArray} {l : List UInt8} : ((sb l).toList != s.toList) = !decide (l = bl s) := by
  rw [sb_toList, toList_bl, Bool.eq_iff_iff]
  simp
theorem bytes_eq {s : ByteArray} {l : List UInt8} : ((sb l).toList == s.toList) = decide (l = bl s) := by
  rw [sb_toList, toList_bl, Bool.eq_iff_iff]
  simp
theorem bytes_eq2 {s : ByteArray} {l : List UInt8} : (l == s.toList) = decide (l = bl s) := by
  rw [toList_bl, Bool.eq_iff_iff]
  simp
theorem bl_zero {s : ByteArray} (h : s.size = 0) : bl s = [] := List.eq_nil_of_length_eq_zero (by rw [bl_len, h])
set_option maxRecDepth 20000 in
set_option maxHeartbeats 8000000 in
theorem c_l01Number (s : ByteArray) (w : World) (hs : s.size ≤ 1048576) :
    Calls Tryd.prog 16 #[.string s] w fun e w' => e = .returned (numT (numV (bl s))) ∧ Below w.heap.size w w' := by
  by_cases h0 : s.size = 0
  · have HN := Lib.hid (numV_short (l := bl s) (by rw [bl_zero h0]; simp [numD]))
    have hT := toList_nil h0
    go_enter Tryd.func16, Tryd.ntmps16
    go_wp2_with fail
    go_returns
    exact ⟨by rw [HN.out]; rfl, Below.refl _ _⟩
  have hs0 : 0 < s.size := by omega
  have hs0I : (0 : Int) < s.size := by omega
  obtain ⟨a0, t0, hT⟩ := toList_cons hs0
  have hg0 := bl_get s 0 hs0
  by_cases hm : s[0] = 45
  · have q1 : ((s[0].toNat : Int) == 45) = true := by rw [hm]; rfl
    have hd0 := numD_minus (l := bl s) (by rw [hg0, hm])
    obtain ⟨d, hx⟩ : ∃ d, s.extract 1 s.size = d := ⟨_, rfl⟩
    have hd : bl d = numD (bl s) := by rw [← hx, ext_end, bl_sb, hd0]
    have hds : d.size + 1 = s.size := by rw [← bl_len, hd, hd0, List.length_drop, bl_len]; omega
    have hdsI : (d.size : Int) < s.size := by omega
    clear hm hg0 hd0
    by_cases hlen : 1 ≤ d.size ∧ d.size ≤ 18
    rotate_left
    · have hN := numV_short (l := bl s) (by rw [← hd, bl_len]; exact hlen)
      have HN := Lib.hid hN
      by_cases hd0 : d.size = 0
      · clear hN hlen
        go_enter Tryd.func16, Tryd.ntmps16
        go_wp2_with fail
        go_returns
        exact ⟨by rw [HN.out]; rfl, Below.refl _ _⟩
      · have hd18 : (18 : Int) < d.size := by omega
        have hd1 : (1 : Int) ≤ d.size := by omega
        have hd2 : ((d.size : Int) == 0) = false := by rw [beq_eq_false_iff_ne]; omega
        clear hN hlen
        go_enter Tryd.func16, Tryd.ntmps16
        go_wp2_with fail
        go_returns
        exact ⟨by rw [HN.out]; rfl, Below.refl _ _⟩
    obtain ⟨hl1, hl2⟩ := hlen
    have hl1I : (1 : Int) ≤ d.size := by omega
    have hl2I : (d.size : Int) ≤ 18 := by omega
    have hd2 : ((d.size : Int) == 0) = false := by rw [beq_eq_false_iff_ne]; omega
    have HD := Lib.hid hd
    go_enter Tryd.func16, Tryd.ntmps16
    go_wp2_with fail
    go_loopw [5, 6] (fun v i wr => ∃ (n k : Nat), k ≤ d.size ∧ v = .int .i64 n ∧ i = .int .i64 k ∧ wr = w ∧ Hid (NumInv (bl d) k n)) (fun _ i _ => d.size - (intOf i).toNat)
    case atStart => exact ⟨0, 0, Nat.zero_le _, rfl, rfl, rfl, NumInv.start _⟩
    case round =>
      obtain ⟨n, k, hk, rfl, rfl, rfl, hI⟩ := hrel
      by_cases hlt : k < d.size
      · have hg := Lib.hid (bl_get d k hlt)
        cases hdg : digB d[k]
        · have HG := Lib.hid hdg
          have HN := Lib.hid (numV_bad (l := bl s) (by rw [← HD.out]; exact hg.out) hdg)
          clear hdg
          go_wp2_with (go_at_call 24; refine (c_l01Digit _ _ HG.out _).mono ?_; rintro r_ w' ⟨rfl, rfl⟩)
          go_returns
          exact ⟨by rw [HN.out]; rfl, Below.refl _ _⟩
        · have HG := Lib.hid hdg
          obtain ⟨r, hr, hr10⟩ := digB_val hdg
          have HI := Lib.hid (hI.out.step hg.out hdg hr)
          have hn17 := hI.out.lt (by omega)
          have hsub : (d[k].toNat : Int) - 48 = (r : Int) := by omega
          have hcv := conv_digit r hr10
          have hrI : (r : Int) < 10 := by omega
          have hrI0 : (0 : Int) ≤ (r : Int) := by omega
          clear hdg hr
          go_wp2_with (go_at_call 24; refine (c_l01Digit _ _ HG.out _).mono ?_; rintro r_ w' ⟨rfl, rfl⟩)
          go_roundw
          case rel => exact ⟨n * 10 + r, k + 1, by omega, by first | go_num | (congr 1; omega), by go_num, (by first | trivial | rfl), HI⟩
          case measure => simp [intOf]; omega
      · obtain ⟨hall, hval⟩ := hI.out.done (by rw [bl_len]; omega)
        have hn18 : n < 1000000000000000000 := by rw [hval]; exact valD_18 hall (by rw [bl_len]; omega)
        have hNN : numN (bl s) = -(n : Int) := by
          unfold numN
          rw [if_pos (by rw [← HD.out]; simp only [bl_len]; omega), ← HD.out, ← hval]
        have hNV := numV_end (l := bl s) (by rw [← HD.out, bl_len]; exact hl1) (by rw [← HD.out, bl_len]; exact hl2) (by rw [← HD.out]; exact hall)
        rw [hNN] at hNV
        have hne := bytes_ne (s := s) (l := Lib.itoa (-(n : Int)))
        have hee := bytes_eq (s := s) (l := Lib.itoa (-(n : Int)))
        have hef := bytes_eq2 (s := s) (l := Lib.itoa (-(n : Int)))
        rw [hT] at hne hee hef
        cases hdc : decide (Lib.itoa (-(n : Int)) = bl s)
        · rw [hdc] at hne hee hef
          rw [if_neg (of_decide_eq_false hdc)] at hNV
          have HN := Lib.hid hNV
          clear hdc hNV hNN hval hall hI
          have hne2 := hne
          simp only [Bool.not_true, Bool.not_false] at hne2
          go_wp2_with (go_at_call 21; refine (c_l01Dec _ (by omega) (by omega) _).mono ?_; rintro r_ w1 ⟨rfl, hb1⟩)
          go_returns
          exact ⟨by rw [HN.out]; rfl, hb1⟩
        · rw [hdc] at hne hee hef
          rw [if_pos (of_decide_eq_true hdc)] at hNV
          have HN := Lib.hid hNV
          clear hdc hNV hNN hval hall hI
          have hne2 := hne
          simp only [Bool.not_true, Bool.not_false] at hne2
          go_wp2_with (go_at_call 21; refine (c_l01Dec _ (by omega) (by omega) _).mono ?_; rintro r_ w1 ⟨rfl, hb1⟩)
          go_returns
          exact ⟨by rw [HN.out]; rfl, hb1⟩
  · have q1 : ((s[0].toNat : Int) == 45) = false := (u8_lit (c := 45) rfl).trans (beq_eq_false_iff_ne.2 hm)
    have hd0 := numD_plain (l := bl s) (by rw [hg0]; exact fun e => hm (Option.some.inj e))
    obtain ⟨d, hx⟩ : ∃ d, s = d := ⟨_, rfl⟩
    subst hx
    have hd : bl s = numD (bl s) := hd0.symm
    clear hm hg0 hd0
    by_cases hlen : 1 ≤ s.size ∧ s.size ≤ 18
    rotate_left
    · have hN := numV_short (l := bl s) (by rw [← hd, bl_len]; exact hlen)
      have HN := Lib.hid hN
      by_cases hd0 : s.size = 0
      · exact absurd hd0 h0
      · have hd18 : (18 : Int) < s.size := by omega
        have hd1 : (1 : Int) ≤ s.size := by omega
        have hd2 : ((s.size : Int) == 0) = false := by rw [beq_eq_false_iff_ne]; omega
        clear hN hlen
        go_enter Tryd.func16, Tryd.ntmps16
        go_wp2_with fail
        go_returns
        exact ⟨by rw [HN.out]; rfl, Below.refl _ _⟩
    obtain ⟨hl1, hl2⟩ := hlen
    have hl1I : (1 : Int) ≤ s.size := by omega
    have hl2I : (s.size : Int) ≤ 18 := by omega
    have hd2 : ((s.size : Int) == 0) = false := by rw [beq_eq_false_iff_ne]; omega
    have HD := Lib.hid hd
    go_enter Tryd.func16, Tryd.ntmps16
    go_wp2_with fail
    go_loopw [5, 6] (fun v i wr => ∃ (n k : Nat), k ≤ s.size ∧ v = .int .i64 n ∧ i = .int .i64 k ∧ wr = w ∧ Hid (NumInv (bl s) k n)) (fun _ i _ => s.size - (intOf i).toNat)
    case atStart => exact ⟨0, 0, Nat.zero_le _, rfl, rfl, rfl, NumInv.start _⟩
    case round =>
      obtain ⟨n, k, hk, rfl, rfl, rfl, hI⟩ := hrel
      by_cases hlt : k < s.size
      · have hg := Lib.hid (bl_get s k hlt)
        cases hdg : digB s[k]
        · have HG := Lib.hid hdg
          have HN := Lib.hid (numV_bad (l := bl s) (by rw [← HD.out]; exact hg.out) hdg)
          clear hdg
          go_wp2_with (go_at_call 24; refine (c_l01Digit _ _ HG.out _).mono ?_; rintro r_ w' ⟨rfl, rfl⟩)
          go_returns
          exact ⟨by rw [HN.out]; rfl, Below.refl _ _⟩
        · have HG := Lib.hid hdg
          obtain ⟨r, hr, hr10⟩ := digB_val hdg
          have HI := Lib.hid (hI.out.step hg.out hdg hr)
          have hn17 := hI.out.lt (by omega)
          have hsub : (s[k].toNat : Int) - 48 = (r : Int) := by omega
          have hcv := conv_digit r hr10
          have hrI : (r : Int) < 10 := by omega
          have hrI0 : (0 : Int) ≤ (r : Int) := by omega
          clear hdg hr
          go_wp2_with (go_at_call 24; refine (c_l01Digit _ _ HG.out _).mono ?_; rintro r_ w' ⟨rfl, rfl⟩)
          go_roundw
          case rel => exact ⟨n * 10 + r, k + 1, by omega, by first | go_num | (congr 1; omega), by go_num, (by first | trivial | rfl), HI⟩
          case measure => simp [intOf]; omega
      · obtain ⟨hall, hval⟩ := hI.out.done (by rw [bl_len]; omega)
        have hn18 : n < 1000000000000000000 := by rw [hval]; exact valD_18 hall (by rw [bl_len]; omega)
        have hNN : numN (bl s) = (n : Int) := by
          unfold numN
          rw [if_neg (by rw [← HD.out]; simp only [bl_len]; omega), ← HD.out, ← hval]
        have hNV := numV_end (l := bl s) (by rw [← HD.out, bl_len]; exact hl1) (by rw [← HD.out, bl_len]; exact hl2) (by rw [← HD.out]; exact hall)
        rw [hNN] at hNV
        have hne := bytes_ne (s := s) (l := Lib.itoa ((n : Int)))
        have hee := bytes_eq (s := s) (l := Lib.itoa ((n : Int)))
        have hef := bytes_eq2 (s := s) (l := Lib.itoa ((n : Int)))
        rw [hT] at hne hee hef
        cases hdc : decide (Lib.itoa ((n : Int)) = bl s)
        · rw [hdc] at hne hee hef
          rw [if_neg (of_decide_eq_false hdc)] at hNV
          have HN := Lib.hid hNV
          clear hdc hNV hNN hval hall hI
          have hne2 := hne
          simp only [Bool.not_true, Bool.not_false] at hne2
          go_wp2_with (go_at_call 21; refine (c_l01Dec _ (by omega) (by omega) _).mono ?_; rintro r_ w1 ⟨rfl, hb1⟩)
          go_returns
          exact ⟨by rw [HN.out]; rfl, hb1⟩
        · rw [hdc] at hne hee hef
          rw [if_pos (of_decide_eq_true hdc)] at hNV
          have HN := Lib.hid hNV
          clear hdc hNV hNN hval hall hI
          have hne2 := hne
          simp only [Bool.not_true, Bool.not_false] at hne2
          go_wp2_with (go_at_call 21; refine (c_l01Dec _ (by omega) (by omega) _).mono ?_; rintro r_ w1 ⟨rfl, hb1⟩)
          go_returns
          exact ⟨by rw [HN.out]; rfl, hb1⟩
set_option maxRecDepth 20000 in
set_option maxHeartbeats 8000000 in
theorem c_ReadDecimal (s : ByteArray) (w : World) (hs : s.size ≤ 1048576) (ht : Tab w) :
    Calls Tryd.prog 19 #[.string s] w fun e w' => e = .returned (numT (numV (bl s))) ∧ Below w.heap.size w w' := by
  have HT := Lib.hid ht
  clear ht
  by_cases h0 : s.size = 0
  · have HN := Lib.hid (numV_short (l := bl s) (by rw [bl_zero h0]; simp [numD]))
    have hT := toList_nil h0
    go_enter Tryd.func19, Tryd.ntmps19
    go_wp2_with fail
    go_returns
    exact ⟨by rw [HN.out]; rfl, Below.refl _ _⟩
  have hs0 : 0 < s.size := by omega
  have hs0I : (0 : Int) < s.size := by omega
  obtain ⟨a0, t0, hT⟩ := toList_cons hs0
  have hg0 := bl_get s 0 hs0
  by_cases hm : s[0] = 45
  · have q1 : ((s[0].toNat : Int) == 45) = true := by rw [hm]; rfl
    have hd0 := numD_minus (l := bl s) (by rw [hg0, hm])
    obtain ⟨d, hx⟩ : ∃ d, s.extract 1 s.size = d := ⟨_, rfl⟩
    have hd : bl d = numD (bl s) := by rw [← hx, ext_end, bl_sb, hd0]
    have hds : d.size + 1 = s.size := by rw [← bl_len, hd, hd0, List.length_drop, bl_len]; omega
    have hdsI : (d.size : Int) < s.size := by omega
    clear hm hg0 hd0
    by_cases hlen : 1 ≤ d.size ∧ d.size ≤ 18
    rotate_left
    · have hN := numV_short (l := bl s) (by rw [← hd, bl_len]; exact hlen)
      have HN := Lib.hid hN
      by_cases hd0 : d.size = 0
      · clear hN hlen
        go_enter Tryd.func19, Tryd.ntmps19
        go_wp2_with fail
        go_returns
        exact ⟨by rw [HN.out]; rfl, Below.refl _ _⟩
      · have hd18 : (18 : Int) < d.size := by omega
        have hd1 : (1 : Int) ≤ d.size := by omega
        have hd2 : ((d.size : Int) == 0) = false := by rw [beq_eq_false_iff_ne]; omega
        clear hN hlen
        go_enter Tryd.func19, Tryd.ntmps19
        go_wp2_with fail
        go_returns
        exact ⟨by rw [HN.out]; rfl, Below.refl _ _⟩
    obtain ⟨hl1, hl2⟩ := hlen
    have hl1I : (1 : Int) ≤ d.size := by omega
    have hl2I : (d.size : Int) ≤ 18 := by omega
    have hd2 : ((d.size : Int) == 0) = false := by rw [beq_eq_false_iff_ne]; omega
    have HD := Lib.hid hd
    go_enter Tryd.func19, Tryd.ntmps19
    go_wp2_with fail
    go_loopw [5, 6, 28] (fun v _ i wr => ∃ (n k : Nat), k ≤ d.size ∧ v = .int .i64 n ∧ i = .int .i64 k ∧ wr = w ∧ Hid (NumInv (bl d) k n)) (fun _ _ i _ => d.size - (intOf i).toNat)
    case atStart => exact ⟨0, 0, Nat.zero_le _, rfl, rfl, rfl, NumInv.start _⟩
    case round =>
      obtain ⟨n, k, hk, rfl, rfl, rfl, hI⟩ := hrel
      by_cases hlt : k < d.size
      · have hg := Lib.hid (bl_get d k hlt)
        cases hdg : digB d[k]
        · have HG := Lib.hid hdg
          have HN := Lib.hid (numV_bad (l := bl s) (by rw [← HD.out]; exact hg.out) hdg)
          clear hdg
          go_wp2_with (go_at_call 26; refine (c_isDigit _ _ HG.out _).mono ?_; rintro r_ w' ⟨rfl, rfl⟩)
          go_returns
          exact ⟨by rw [HN.out]; rfl, Below.refl _ _⟩
        · have HG := Lib.hid hdg
          obtain ⟨r, hr, hr10⟩ := digB_val hdg
          have HI := Lib.hid (hI.out.step hg.out hdg hr)
          have hn17 := hI.out.lt (by omega)
          have hsub : (d[k].toNat : Int) - 48 = (r : Int) := by omega
          have hcv := conv_digit r hr10
          have hrI : (r : Int) < 10 := by omega
          have hrI0 : (0 : Int) ≤ (r : Int) := by omega
          clear hdg hr
          go_wp2_with (go_at_call 26; refine (c_isDigit _ _ HG.out _).mono ?_; rintro r_ w' ⟨rfl, rfl⟩)
          go_roundw
          case rel => first | exact ⟨n * 10 + r, k + 1, by omega, by first | go_num | (congr 1; omega), by go_num, (by first | trivial | rfl), HI⟩ | ((repeat apply Exists.intro); exact ⟨⟨n * 10 + r, k + 1, by omega, by first | go_num | (congr 1; omega), by go_num, (by first | trivial | rfl), HI⟩, rfl⟩)
          case measure => simp [intOf]; omega
      · obtain ⟨hall, hval⟩ := hI.out.done (by rw [bl_len]; omega)
        have hn18 : n < 1000000000000000000 := by rw [hval]; exact valD_18 hall (by rw [bl_len]; omega)
        have hNN : numN (bl s) = -(n : Int) := by
          unfold numN
          rw [if_pos (by rw [← HD.out]; simp only [bl_len]; omega), ← HD.out, ← hval]
        have hNV := numV_end (l := bl s) (by rw [← HD.out, bl_len]; exact hl1) (by rw [← HD.out, bl_len]; exact hl2) (by rw [← HD.out]; exact hall)
        rw [hNN] at hNV
        have hne := bytes_ne (s := s) (l := Lib.itoa (-(n : Int)))
        have hee := bytes_eq (s := s) (l := Lib.itoa (-(n : Int)))
        have hef := bytes_eq2 (s := s) (l := Lib.itoa (-(n : Int)))
        rw [hT] at hne hee hef
        cases hdc : decide (Lib.itoa (-(n : Int)) = bl s)
        · rw [hdc] at hne hee hef
          rw [if_neg (of_decide_eq_false hdc)] at hNV
          have HN := Lib.hid hNV
          clear hdc hNV hNN hval hall hI
          have hne2 := hne
          simp only [Bool.not_true, Bool.not_false] at hne2
          go_wp2_with (go_at_call 14; refine (c_Decimal _ (by omega) (by omega) _ HT.out).mono ?_; rintro r_ w1 ⟨rfl, hb1⟩)
          go_returns
          exact ⟨by rw [HN.out]; rfl, hb1⟩
        · rw [hdc] at hne hee hef
          rw [if_pos (of_decide_eq_true hdc)] at hNV
          have HN := Lib.hid hNV
          clear hdc hNV hNN hval hall hI
          have hne2 := hne
          simp only [Bool.not_true, Bool.not_false] at hne2
          go_wp2_with (go_at_call 14; refine (c_Decimal _ (by omega) (by omega) _ HT.out).mono ?_; rintro r_ w1 ⟨rfl, hb1⟩)
          go_returns
          exact ⟨by rw [HN.out]; rfl, hb1⟩
  · have q1 : ((s[0].toNat : Int) == 45) = false := (u8_lit (c := 45) rfl).trans (beq_eq_false_iff_ne.2 hm)
    have hd0 := numD_plain (l := bl s) (by rw [hg0]; exact fun e => hm (Option.some.inj e))
    obtain ⟨d, hx⟩ : ∃ d, s = d := ⟨_, rfl⟩
    subst hx
    have hd : bl s = numD (bl s) := hd0.symm
    clear hm hg0 hd0
    by_cases hlen : 1 ≤ s.size ∧ s.size ≤ 18
    rotate_left
    · have hN := numV_short (l := bl s) (by rw [← hd, bl_len]; exact hlen)
      have HN := Lib.hid hN
      by_cases hd0 : s.size = 0
      · exact absurd hd0 h0
      · have hd18 : (18 : Int) < s.size := by omega
        have hd1 : (1 : Int) ≤ s.size := by omega
        have hd2 : ((s.size : Int) == 0) = false := by rw [beq_eq_false_iff_ne]; omega
        clear hN hlen
        go_enter Tryd.func19, Tryd.ntmps19
        go_wp2_with fail
        go_returns
        exact ⟨by rw [HN.out]; rfl, Below.refl _ _⟩
    obtain ⟨hl1, hl2⟩ := hlen
    have hl1I : (1 : Int) ≤ s.size := by omega
    have hl2I : (s.size : Int) ≤ 18 := by omega
    have hd2 : ((s.size : Int) == 0) = false := by rw [beq_eq_false_iff_ne]; omega
    have HD := Lib.hid hd
    go_enter Tryd.func19, Tryd.ntmps19
    go_wp2_with fail
    go_loopw [5, 6, 28] (fun v _ i wr => ∃ (n k : Nat), k ≤ s.size ∧ v = .int .i64 n ∧ i = .int .i64 k ∧ wr = w ∧ Hid (NumInv (bl s) k n)) (fun _ _ i _ => s.size - (intOf i).toNat)
    case atStart => exact ⟨0, 0, Nat.zero_le _, rfl, rfl, rfl, NumInv.start _⟩
    case round =>
      obtain ⟨n, k, hk, rfl, rfl, rfl, hI⟩ := hrel
      by_cases hlt : k < s.size
      · have hg := Lib.hid (bl_get s k hlt)
        cases hdg : digB s[k]
        · have HG := Lib.hid hdg
          have HN := Lib.hid (numV_bad (l := bl s) (by rw [← HD.out]; exact hg.out) hdg)
          clear hdg
          go_wp2_with (go_at_call 26; refine (c_isDigit _ _ HG.out _).mono ?_; rintro r_ w' ⟨rfl, rfl⟩)
          go_returns
          exact ⟨by rw [HN.out]; rfl, Below.refl _ _⟩
        · have HG := Lib.hid hdg
          obtain ⟨r, hr, hr10⟩ := digB_val hdg
          have HI := Lib.hid (hI.out.step hg.out hdg hr)
          have hn17 := hI.out.lt (by omega)
          have hsub : (s[k].toNat : Int) - 48 = (r : Int) := by omega
          have hcv := conv_digit r hr10
          have hrI : (r : Int) < 10 := by omega
          have hrI0 : (0 : Int) ≤ (r : Int) := by omega
          clear hdg hr
          go_wp2_with (go_at_call 26; refine (c_isDigit _ _ HG.out _).mono ?_; rintro r_ w' ⟨rfl, rfl⟩)
          go_roundw
          case rel => first | exact ⟨n * 10 + r, k + 1, by omega, by first | go_num | (congr 1; omega), by go_num, (by first | trivial | rfl), HI⟩ | ((repeat apply Exists.intro); exact ⟨⟨n * 10 + r, k + 1, by omega, by first | go_num | (congr 1; omega), by go_num, (by first | trivial | rfl), HI⟩, rfl⟩)
          case measure => simp [intOf]; omega
      · obtain ⟨hall, hval⟩ := hI.out.done (by rw [bl_len]; omega)
        have hn18 : n < 1000000000000000000 := by rw [hval]; exact valD_18 hall (by rw [bl_len]; omega)
        have hNN : numN (bl s) = (n : Int) := by
          unfold numN
          rw [if_neg (by rw [← HD.out]; simp only [bl_len]; omega), ← HD.out, ← hval]
        have hNV := numV_end (l := bl s) (by rw [← HD.out, bl_len]; exact hl1) (by rw [← HD.out, bl_len]; exact hl2) (by rw [← HD.out]; exact hall)
        rw [hNN] at hNV
        have hne := bytes_ne (s := s) (l := Lib.itoa ((n : Int)))
        have hee := bytes_eq (s := s) (l := Lib.itoa ((n : Int)))
        have hef := bytes_eq2 (s := s) (l := Lib.itoa ((n : Int)))
        rw [hT] at hne hee hef
        cases hdc : decide (Lib.itoa ((n : Int)) = bl s)
        · rw [hdc] at hne hee hef
          rw [if_neg (of_decide_eq_false hdc)] at hNV
          have HN := Lib.hid hNV
          clear hdc hNV hNN hval hall hI
          have hne2 := hne
          simp only [Bool.not_true, Bool.not_false] at hne2
          go_wp2_with (go_at_call 14; refine (c_Decimal _ (by omega) (by omega) _ HT.out).mono ?_; rintro r_ w1 ⟨rfl, hb1⟩)
          go_returns
          exact ⟨by rw [HN.out]; rfl, hb1⟩
        · rw [hdc] at hne hee hef
          rw [if_pos (of_decide_eq_true hdc)] at hNV
          have HN := Lib.hid hNV
          clear hdc hNV hNN hval hall hI
          have hne2 := hne
          simp only [Bool.not_true, Bool.not_false] at hne2
          go_wp2_with (go_at_call 14; refine (c_Decimal _ (by omega) (by omega) _ HT.out).mono ?_; rintro r_ w1 ⟨rfl, hb1⟩)
          go_returns
          exact ⟨by rw [HN.out]; rfl, hb1⟩
end Go.Proofs.YtldhhbnochlmlaaDoor
