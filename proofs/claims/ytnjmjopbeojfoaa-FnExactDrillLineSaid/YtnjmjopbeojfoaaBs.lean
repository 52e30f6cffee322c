/- Texts added to rows of bytes; repeat, trimRight. -/
import Derived.Test.YtnjmjopbeojfoaaBy
import Derived.Test.YtnjmjopbeojfoaaTw
import Derived.Lib.AppendStr
namespace Go.Proofs.Ytnjmjopbeojfoaa
open Go.RowKit Go.BigFrame
attribute [local go_sem] sub_cell sub_frozen drewN_setCell

theorem BRow.snocs {w' : World} {base : Nat} {l : List UInt8} {v' : Value} {s : ByteArray} (h : w'.ownsRow base 5 1 v' (l.length + s.size) (l.map bv ++ Lib.strCells s)) : BRow w' base v' (l ++ bl s) := by
  unfold BRow
  rw [List.length_append, List.map_append, bl_len]
  exact h
theorem rowText (w : World) (g cap : Nat) (l : List UInt8) (hc : ∀ j (hj : j < l.length), w.cell? ⟨g, j, none⟩ = some (.int .u8 (l[j].toNat : Int))) : (convert 62 9 (.slice (some ⟨g, 0, none⟩) l.length cap)).run Try.prog w = .ok (.string (sb l)) w := by
  refine run_convert_bytes_back (P := Try.prog) w 62 9 5 ⟨g, 0, none⟩ cap l Try.underlying62 Try.underlying5 Try.underlying9 fun j hj => ?_
  rw [← hc j hj]
  congr 1
  unfold Addr.add
  split
  · rename_i h0; subst h0; rfl
  · simp
theorem BRow.cap_le {w : World} {base g n cap : Nat} {l : List UInt8} (h : BRow w base (.slice (some ⟨g, 0, none⟩) n cap) l) : l.length ≤ cap := by
  rcases h.2 with ⟨h1, _⟩ | ⟨g', cap', cur, h1, h2, h3, h4, _⟩
  · cases h1
  · cases h1; exact h4
/-- 'out = append(out, s...)' for a text s. -/
theorem appStr {P : Program} {ops : Array Oper} {rest : List Oper} {o : Oper} {a : Act} {Q : Exit → Act → World → Prop} (hgd : o.guard = none) (sl x : Operand) (t u : TypeId)
    (ho : o.op = .call { callee := .builtin .append, args := #[sl, x], argTypes := #[t, u] })
    (base : Nat) (e : TypeId) (ht : P.underlying t = some (.slice e)) (hu : P.underlying u = some .string) (hinfo : (P.info? e).map (fun i => (i.zero, i.size, i.bytes)) = some (some (.int .u8 0), 1, 1))
    (w : World) (v : Value) (n : Nat) (xs : List Value) (hs : a.eval sl = v) (hown : w.ownsRow base e 1 v n xs) (s : ByteArray) (hx : a.eval x = .string s)
    (h63 : n + s.size ≤ 1099511627776) (hbase : base ≤ w.heap.size)
    (h : ∀ v' w', w'.ownsRow base e 1 v' (n + s.size) (xs ++ Lib.strCells s) → Below base w w' → w.grownBy w' v.ownBlock → wpList P ops Q rest (a.put o.dst v') w') : wpList P ops Q (o :: rest) a w := by
  obtain ⟨i, hi, hzz⟩ := Option.map_eq_some_iff.1 hinfo
  simp only [Prod.mk.injEq] at hzz
  obtain ⟨hz, hs1, hb1⟩ := hzz
  refine Lib.wpList_append_own_string w hgd sl x t u ho base e i ht hu hi hz hs1 hb1 v n xs hs hown s hx (by simp only [maxLen]; omega) (by omega) hbase fun v' w' h1 h2 _ => h v' w' h1 ((Below.refl _ _).grown h2 hbase fun k hk => (hown.lt k hk).1) h2

def repL (l : List UInt8) (n : Nat) : List UInt8 := (List.replicate n l).flatten
theorem repL_succ (l : List UInt8) (n : Nat) : repL l (n + 1) = repL l n ++ l := by
  unfold repL
  rw [List.replicate_succ', List.flatten_append]
  simp
theorem repL_len (l : List UInt8) (n : Nat) : (repL l n).length = n * l.length := by simp [repL]
set_option maxHeartbeats 1000000 in
theorem c_repeat (s : ByteArray) (n : Nat) (w : World) (hs : s.size ≤ 1000) (hn : n ≤ 1000) :
    Calls Try.prog 47 #[.string s, .int .i64 (n : Int)] w fun e w' => e = .returned (.string (sb (repL (bl s) n))) ∧ Below w.heap.size w w' := by
  have hmx : max (n : Int) 0 = n := by omega
  go_enter Try.func47, Try.ntmps47
  go_wp2_with fail
  go_loopw [5, 9] (fun v i wr => ∃ k : Nat, k ≤ n ∧ i = .int .i64 k ∧ Below w.heap.size w wr ∧ Hid (BRow wr w.heap.size v (repL (bl s) k))) (fun _ i _ => n - (intOf i).toNat)
  case atStart => exact ⟨0, Nat.zero_le _, rfl, by (repeat' (first | (with_reducible exact Below.refl _ _) | (with_reducible assumption) | (with_reducible refine below_drewN ?_ _) | (with_reducible refine Below.drew ?_) | (with_reducible refine Below.alloc ?_ ?_ _) | (with_reducible refine Below.setCell ?_ ?_ _) | go_size)), BRow.made _⟩
  case round =>
    obtain ⟨k, hk, rfl, hB, hrow⟩ := hrel
    have hz := hB.size
    by_cases hlt : k < n
    · have hl := repL_len (bl s) k
      rw [bl_len] at hl
      have hm : k * s.size ≤ 1000 * 1000 := Nat.mul_le_mul (by omega) (by omega)
      have HLN : Hid ((repL (bl s) k).length + s.size ≤ 1099511627776) := by show _ ≤ _; omega
      clear hl hm
      go_wp2_with (at_builtin; refine appStr rfl (.tmp 11) (.tmp 12) _ _ rfl w.heap.size 5 Try.underlying62 Try.underlying9 info_uint8 _ _ _ _ rfl hrow.out s rfl HLN.out hz ?_; intro v' w2 hown2 hb2 hg2)
      go_roundw
      case rel => exact ⟨k + 1, by omega, by go_num, hB.trans hb2, by show BRow _ _ _ _; rw [repL_succ]; exact BRow.snocs hown2⟩
      case measure => simp [intOf]; omega
    · obtain rfl : k = n := by omega
      have hconv := hrow.out.text
      clear hrow
      go_wp2_with fail
      go_ret
      exact ⟨rfl, hB⟩
/-- A text without the blanks at its end. -/
def trimR (l : List UInt8) : List UInt8 := (l.reverse.dropWhile (· == 32)).reverse
theorem trimR_blank {l : List UInt8} : trimR (l ++ [32]) = trimR l := by simp [trimR]
theorem trimR_other {l : List UInt8} {c : UInt8} (h : (c == 32) = false) : trimR (l ++ [c]) = l ++ [c] := by simp [trimR, List.dropWhile_cons, h]
theorem trimR_nil : trimR [] = [] := rfl
theorem take_snoc {l : List UInt8} {k : Nat} {c : UInt8} (h : l[k]? = some c) : l.take (k + 1) = l.take k ++ [c] := by rw [List.take_add_one, h]; rfl
theorem sb_take (s : ByteArray) (k : Nat) : s.extract 0 k = sb ((bl s).take k) := by
  apply sb_ext
  rw [bl_sb]
  simp [bl]
theorem u8_lit32 {a : UInt8} : ((a.toNat : Int) == 32) = (a == 32) := by
  have := u8_eq (a := a) (c := 32)
  exact this
set_option maxHeartbeats 1000000 in
theorem c_trimRight (s : ByteArray) (w : World) (hs : s.size ≤ maxLen) :
    Calls Try.prog 48 #[.string s] w fun e w' => e = .returned (.string (sb (trimR (bl s)))) ∧ w = w' := by
  unfold maxLen at hs
  go_enter Try.func48, Try.ntmps48
  go_wp2_with fail
  go_loop [3] (fun i => ∃ k : Nat, k ≤ s.size ∧ i = .int .i64 k ∧ Hid (trimR ((bl s).take k) = trimR (bl s))) (fun i => (intOf i).toNat)
  case atStart => exact ⟨s.size, Nat.le_refl _, rfl, by show trimR _ = _; rw [List.take_of_length_le (by rw [bl_len]; omega)]⟩
  case round =>
    obtain ⟨k, hk, rfl, hh⟩ := hrel
    rcases k with _ | k
    · have HH := hh.out
      rw [List.take_zero, trimR_nil] at HH
      have H2 := Lib.hid HH
      clear hh HH
      go_wp2_with fail
      go_ret
      exact ⟨by rw [← H2.out]; rfl, rfl⟩
    · have hks : k < s.size := by omega
      have hks2 : (k : Int) < s.size := by omega
      have hg := take_snoc (bl_get s k hks)
      have q1 : ((s[k].toNat : Int) == 32) = (s[k] == 32) := u8_lit32
      cases f1 : (s[k] == 32) <;> rw [f1] at q1
      · have H2 := hh.out
        rw [hg, trimR_other f1, ← hg] at H2
        have HH := Lib.hid H2
        clear hh H2 hg f1
        go_wp2_with fail
        go_ret
        exact ⟨by rw [← HH.out]; (try rw [sb_take]); rfl, rfl⟩
      · have H2 := hh.out
        rw [hg, show s[k] = 32 from by simpa using f1, trimR_blank] at H2
        have HH := Lib.hid H2
        clear hh H2 hg f1
        go_wp2_with fail
        go_round
        case rel => exact ⟨k, by omega, by go_num, HH.out⟩
        case measure => simp [intOf]
end Go.Proofs.Ytnjmjopbeojfoaa
