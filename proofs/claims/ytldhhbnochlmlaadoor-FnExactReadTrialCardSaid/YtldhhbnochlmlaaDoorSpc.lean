/- Contracts: texts split at a byte; words. -/
import Derived.Test.YtldhhbnochlmlaaDoorSplt
import Derived.Test.YtldhhbnochlmlaaDoorMem
namespace Go.Proofs.YtldhhbnochlmlaaDoor
open Go.RowKit Go.BigFrame
attribute [local go_sem] sub_cell sub_frozen drewN_setCell

theorem info_text : (Tryd.prog.info? 9).map (fun i => (i.zero, i.size, i.bytes)) = some (some (.string ⟨#[]⟩), 1, 16) := by kernel_rfl
def tv (a : List UInt8) : Value := .string (sb a)
/-- A row of texts of the call's own. -/
def TRow (w : World) (base : Nat) (v : Value) (L : List (List UInt8)) : Prop := w.ownsRow base 9 1 v L.length (L.map tv)
section
variable {w w' : World} {base : Nat} {v : Value} {L : List (List UInt8)}
theorem TRow.later (h : TRow w base v L) (hb : Below w.heap.size w w') : TRow w' base v L :=
  World.ownsRow.kept h (⟨hb.os, hb.tape, hb.output, hb.size, fun k hk _ => hb.block k hk⟩ : World.grownBy _ _ none) (by cases (Value.ownBlock _) <;> simp)
theorem TRow.made (w : World) : TRow (w.alloc (.cells #[] 9)) w.heap.size (.slice (some ⟨w.heap.size, 0, none⟩) 0 0) [] := World.ownsRow_made w #[] 0 (Nat.le_refl _) (by decide) rfl
theorem TRow.snoc {v' : Value} {s : ByteArray} {a : List UInt8} (ha : s = sb a) (h : w'.ownsRow base 9 1 v' (L.length + 1) (L.map tv ++ [.string s])) : TRow w' base v' (L ++ [a]) := by
  unfold TRow
  rw [List.length_append, List.map_append]
  subst ha
  exact h
theorem TRow.form (h : TRow w base v L) : ∃ A cap, v = .slice A L.length cap ∧ ∀ j (hj : j < L.length), ∃ g, A = some ⟨g, 0, none⟩ ∧ g < w.heap.size ∧ w.cell? ⟨g, j, none⟩ = some (.string (sb L[j])) := by
  rcases h.2 with ⟨h1, h2⟩ | ⟨g, cap, cur, h1, h2, h3, h4, h5, h6, h7⟩
  · exact ⟨none, 0, by rw [h1, h2], fun j hj => absurd hj (by omega)⟩
  · refine ⟨_, cap, h1, fun j hj => ⟨g, rfl, (Array.getElem?_eq_some_iff.1 h3).1, ?_⟩⟩
    have : (cur.toList.take (L.length * 1))[j]? = (L.map tv)[j]? := by rw [h7]
    rw [List.getElem?_take, if_pos (by omega), List.getElem?_map, List.getElem?_eq_getElem hj] at this
    simp only [World.cell?, h3]
    simpa [tv] using this
end
/-- Fresh texts. -/
def StrsPost (L : List (List UInt8)) (w : World) (r : Ending) (w' : World) : Prop := ∃ v, r = .returned v ∧ TRow w' w.heap.size v L ∧ Below w.heap.size w w'
set_option maxHeartbeats 4000000 in
theorem c_l01Split (s : ByteArray) (c : UInt8) (w : World) (hs : s.size ≤ 1048576) :
    Calls Tryd.prog 15 #[.string s, .int .u8 (c.toNat : Int)] w (StrsPost (splL c (bl s)) w) := by
  go_enter Tryd.func15, Tryd.ntmps15
  go_wp2_with fail
  go_loopw [5, 6, 7] (fun v f i wr => ∃ (k m : Nat) (L : List (List UInt8)), k ≤ m ∧ m ≤ s.size ∧ f = .int .i64 k ∧ i = .int .i64 m ∧ Below w.heap.size w wr ∧ Hid (SplInv c (bl s) L k m) ∧ Hid (TRow wr w.heap.size v L)) (fun _ _ i _ => s.size - (intOf i).toNat)
  case atStart => exact ⟨0, 0, [], Nat.le_refl _, Nat.zero_le _, rfl, rfl, by (repeat' (first | (with_reducible exact Below.refl _ _) | (with_reducible assumption) | (with_reducible refine below_drewN ?_ _) | (with_reducible refine Below.drew ?_) | (with_reducible refine Below.alloc ?_ ?_ _) | (with_reducible refine Below.setCell ?_ ?_ _) | go_size)), Lib.hid (SplInv.start _ _), TRow.made _⟩
  case round =>
    obtain ⟨k, m, L, hkm, hm, rfl, rfl, hB, hI, hrow⟩ := hrel
    have hz := hB.size
    have hll := hI.out.len
    by_cases hlt : m < s.size
    · have hg := Lib.hid (bl_get s m hlt)
      by_cases hc : s[m] = c
      · have q1 : ((s[m].toNat : Int) == (c.toNat : Int)) = true := by rw [hc]; exact beq_self_eq_true _
        have HI := Lib.hid (hI.out.cut (hc ▸ hg.out))
        have hx := ext_sb s k m
        have HX := Lib.hid hx
        clear hc hx
        go_wp2_with (at_builtin; refine app1 rfl (.tmp 20) (.tmp 25) _ rfl w.heap.size 9 _ 16 Tryd.underlying37 info_text rfl _ _ rfl _ _ _ rfl hrow.out rfl (by omega) (by omega) hz ?_; intro v' w2 hown2 hb2 hg2; have HO2 := Lib.hid hown2; clear hown2)
        go_roundw
        case rel => first | exact ⟨m + 1, m + 1, _, Nat.le_refl _, by omega, by go_num, by go_num, hB.trans hb2, HI, TRow.snoc HX.out HO2.out⟩ | ((repeat apply Exists.intro); exact ⟨⟨m + 1, m + 1, _, Nat.le_refl _, by omega, by go_num, by go_num, hB.trans hb2, HI, TRow.snoc HX.out HO2.out⟩, rfl⟩)
        case measure => simp [intOf]; omega
      · have q1 : ((s[m].toNat : Int) == (c.toNat : Int)) = false := by rw [beq_eq_false_iff_ne]; exact fun e => hc (u8int.1 e)
        have HI := Lib.hid (hI.out.other hg.out hc)
        clear hc
        go_wp2_with fail
        go_roundw
        case rel => exact ⟨k, m + 1, L, by omega, by omega, by go_num, by go_num, hB, HI, hrow⟩
        case measure => simp [intOf]; omega
    · have hmm : m = s.size := by omega
      have HD := Lib.hid (hI.out.done (by rw [bl_len]; omega))
      have HX := Lib.hid (ext_end s k)
      have hks : k ≤ s.size := by omega
      go_wp2_with (at_builtin; refine app1 rfl (.tmp 29) (.tmp 33) _ rfl w.heap.size 9 _ 16 Tryd.underlying37 info_text rfl _ _ rfl _ _ _ rfl hrow.out rfl (by omega) (by omega) hz ?_; intro v' w2 hown2 hb2 hg2; have HO2 := Lib.hid hown2; clear hown2)
      go_ret
      exact ⟨_, rfl, by rw [← HD.out]; exact TRow.snoc HX.out HO2.out, hB.trans hb2⟩
end Go.Proofs.YtldhhbnochlmlaaDoor
