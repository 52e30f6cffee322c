/- Contracts: letters that drills train. -/
import Derived.Test.YtnjmjopbeojfoaaDr3
import Derived.Test.YtnjmjopbeojfoaaBy
import Derived.Test.YtnjmjopbeojfoaaNd
import Derived.Test.YtnjmjopbeojfoaaTi
namespace Go.Proofs.Ytnjmjopbeojfoaa
open Go.RowKit Go.BigFrame
attribute [local go_sem] sub_cell sub_frozen drewN_setCell

def ltAt (l : List TDrill) (i : Int) : List UInt8 := match l[i.toNat]? with | some x => bl x.2.1 | none => []
theorem ltAt_at {l : List TDrill} {q : Nat} {nm ls : ByteArray} {mi : Int} (h : l[q]? = some (nm, ls, mi)) : ltAt l (q : Int) = bl ls := by simp [ltAt, h]
/-- Whether drills train a letter. -/
def trB (l : List TDrill) (z : List Int) (c : UInt8) : Bool := z.any fun i => decide (c ∈ ltAt l i)
theorem trB_yes {l : List TDrill} {z : List Int} {c : UInt8} {k : Nat} {x : Int} (h : z[k]? = some x) (hc : c ∈ ltAt l x) : trB l z c = true := by
  simp only [trB, List.any_eq_true, decide_eq_true_eq]
  exact ⟨x, List.mem_of_getElem? h, hc⟩
theorem trB_step {l : List TDrill} {z : List Int} {c : UInt8} {k : Nat} {x : Int} (h : z[k]? = some x) (h0 : trB l (z.take k) c = false) (hc : c ∉ ltAt l x) : trB l (z.take (k + 1)) c = false := by
  unfold trB at *
  rw [List.take_add_one, h, List.any_append, h0]
  simp [hc]
theorem trB_mem (l : List TDrill) (z : List Int) (c : UInt8) : trB l z c = decide (c ∈ z.flatMap (ltAt l)) := by
  rw [Bool.eq_iff_iff, decide_eq_true_eq, List.mem_flatMap]
  simp only [trB, List.any_eq_true, decide_eq_true_eq]
theorem idx_mem {l : List UInt8} {c : UInt8} (h : c ∈ l) (o : Int) (ho : 0 ≤ o) : 0 ≤ idxA l c o := by
  induction l generalizing o with
  | nil => cases h
  | cons a l ih =>
    rw [idxA]
    split
    · exact ho
    · rename_i hne
      rcases List.mem_cons.1 h with rfl | h
      · exact absurd rfl hne
      · exact ih h (o + 1) (by omega)
theorem idx_out {l : List UInt8} {c : UInt8} (h : c ∉ l) (o : Int) : idxA l c o = -1 := by
  induction l generalizing o with
  | nil => rfl
  | cons a l ih =>
    rw [List.mem_cons, not_or] at h
    rw [idxA, if_neg (fun e => h.1 e.symm), ih h.2]

set_option maxHeartbeats 2000000 in
theorem c_l21Trains (A B : Option Addr) (n c m d : Nat) (l : List TDrill) (z : List Int) (ch : UInt8) (r : Bool) (h : trB l z ch = r) (w : World) (ha : Sl drillC w w.heap.size 3 A n l) (hb : Zs w B m z) (hsz : DrSz l) (hz : IdxIn n z) (hm : m ≤ 1048576) (hn : n ≤ 1048576) :
    Calls Try.prog 72 #[.slice A n c, .slice B m d, .int .u8 (ch.toNat : Int)] w fun e w' => e = .returned (.bool r) ∧ w = w' := by
  subst h
  have HL := Lib.hid hb.1
  have HA := Lib.hid ha
  have HB := Lib.hid hb
  have HZ := Lib.hid hz
  have HSZ := Lib.hid hsz
  clear ha hb hz hsz
  go_enter Try.func72, Try.ntmps72
  go_wp2_with fail
  go_loop [7] (fun i => ∃ k : Nat, k ≤ m ∧ i = .int .i64 k ∧ Hid (trB l (z.take k) ch = false)) (fun i => m - (intOf i).toNat)
  case atStart => exact ⟨0, Nat.zero_le _, rfl, rfl⟩
  case round =>
    obtain ⟨k, hk, rfl, hno⟩ := hrel
    by_cases hlt : k < m
    · obtain ⟨b, o, x, rfl, hb1, hb2, hx, c0⟩ := z_at HB.out (Below.refl _ _) hlt
      obtain ⟨hx0, hx1⟩ := HZ.out x (List.mem_of_getElem? hx)
      obtain ⟨q, rfl⟩ : ∃ q : Nat, x = (q : Int) := ⟨x.toNat, by omega⟩
      have hqn : q < n := by omega
      obtain ⟨b', o', nm, ls, mi, rfl, hb1', hb2', hy, d0, d1, d2⟩ := drill_at HA.out (Below.refl _ _) hqn
      have hs2 := Lib.hid (HSZ.out _ (List.mem_of_getElem? hy)).2
      have hla := ltAt_at hy
      have HX := Lib.hid hx
      have HLA := Lib.hid hla
      clear hx hy hla
      by_cases hc : ch ∈ bl ls
      · have hi := idx_mem hc 0 (by omega)
        have HC := Lib.hid hc
        clear hc
        go_wp2_with (go_at_call 67; refine (c_l05Index _ _ _ hs2.out).mono ?_; rintro r_ w' ⟨rfl, rfl⟩)
        go_ret
        exact ⟨by rw [trB_yes HX.out (by rw [HLA.out]; exact HC.out)]; rfl, rfl⟩
      · have hi := idx_out hc 0
        have HC := Lib.hid hc
        clear hc
        go_wp2_with (go_at_call 67; refine (c_l05Index _ _ _ hs2.out).mono ?_; rintro r_ w' ⟨rfl, rfl⟩)
        go_round
        case rel => exact ⟨k + 1, by omega, by go_num, trB_step HX.out hno.out (by rw [HLA.out]; exact HC.out)⟩
        case measure => simp [intOf]; omega
    · obtain rfl : k = m := by omega
      have h1 := hno.out
      rw [List.take_of_length_le (by rw [HL.out]; omega)] at h1
      have H1 := Lib.hid h1
      clear h1 hno
      go_wp2_with fail
      go_ret
      exact ⟨by rw [H1.out]; rfl, rfl⟩

/-- The sum of the counts of the letters that drills train, up to the k-th. -/
def covN (l : List TDrill) (z : List Int) (ls : List UInt8) (cs : List Int) : Nat → Int
  | 0 => 0
  | k + 1 => covN l z ls cs k + (match ls[k]?, cs[k]? with | some c, some v => if trB l z c then v else 0 | _, _ => 0)
def covS (l : List TDrill) (z : List Int) (ls : List UInt8) (cs : List Int) : Int := covN l z ls cs ls.length
theorem covN_step {l : List TDrill} {z : List Int} {ls : List UInt8} {cs : List Int} {k : Nat} {c : UInt8} {v : Int} (h1 : ls[k]? = some c) (h2 : cs[k]? = some v) : covN l z ls cs (k + 1) = covN l z ls cs k + if trB l z c then v else 0 := by
  rw [covN, h1, h2]
/-- The counts of needs. -/
def CntIn (cs : List Int) : Prop := ∀ x ∈ cs, (0 : Int) ≤ x ∧ x ≤ 1000
set_option maxHeartbeats 2000000 in
theorem c_l21Covered (A B D : Option Addr) (n c m d q e : Nat) (l : List TDrill) (z : List Int) (s : ByteArray) (cs : List Int) (w : World) (ha : Sl drillC w w.heap.size 3 A n l) (hb : Zs w B m z) (hd : Zs w D q cs) (hsz : DrSz l) (hz : IdxIn n z) (hcs : CntIn cs) (hq : s.size = q) (hm : m ≤ 1048576) (hn : n ≤ 1048576) (hs : q ≤ 1048576) :
    Calls Try.prog 60 #[.slice A n c, .slice B m d, .string s, .slice D q e] w fun r w' => r = .returned (.int .i64 (covS l z (bl s) cs)) ∧ w = w' := by
  have HD := Lib.hid hd
  have HC := Lib.hid hcs
  have HT := Lib.hid (fun (ch : UInt8) (r : Bool) (h : trB l z ch = r) => c_l21Trains A B n c m d l z ch r h w ha hb hsz hz hm hn)
  clear ha hb hz hsz hd hcs
  subst hq
  go_enter Try.func60, Try.ntmps60
  go_wp2_with fail
  go_loop [9, 10] (fun u i => ∃ k : Nat, ∃ v : Int, k ≤ s.size ∧ i = .int .i64 k ∧ u = .int .i64 v ∧ 0 ≤ v ∧ v ≤ 1000 * k ∧ Hid (covN l z (bl s) cs k = v)) (fun _ i => s.size - (intOf i).toNat)
  case atStart => exact ⟨0, 0, Nat.zero_le _, rfl, rfl, by omega, by omega, rfl⟩
  case round =>
    obtain ⟨k, v, hk, rfl, rfl, hv0, hv1, hv⟩ := hrel
    by_cases hlt : k < s.size
    · obtain ⟨b, o, x, rfl, hb1, hb2, hx, c0⟩ := z_at HD.out (Below.refl _ _) hlt
      obtain ⟨hx0, hx1⟩ := HC.out x (List.mem_of_getElem? hx)
      have hst := covN_step (l := l) (z := z) (bl_get s k hlt) hx
      rw [hv.out] at hst
      cases g : trB l z s[k] <;> rw [g] at hst <;> have G := Lib.hid g <;> have HST := Lib.hid hst <;> clear g hst hx
      · go_wp2_with (go_at_call 72; refine (HT.out _ _ G.out).mono ?_; rintro r_ w' ⟨rfl, rfl⟩)
        go_round
        case rel => exact ⟨k + 1, v, by omega, by go_num, rfl, by omega, by omega, by have := HST.out; simp at this; exact this⟩
        case measure => simp [intOf]; omega
      · go_wp2_with (go_at_call 72; refine (HT.out _ _ G.out).mono ?_; rintro r_ w' ⟨rfl, rfl⟩)
        go_round
        case rel => exact ⟨k + 1, v + x, by omega, by go_num, rfl, by omega, by omega, by have := HST.out; simp at this; exact this⟩
        case measure => simp [intOf]; omega
    · obtain rfl : k = s.size := by omega
      have H1 : Hid (covS l z (bl s) cs = v) := by show covN l z (bl s) cs (bl s).length = v; rw [bl_len]; exact hv.out
      clear hv
      go_wp2_with fail
      go_ret
      exact ⟨by rw [H1.out]; rfl, rfl⟩
def leftL (l : List TDrill) (z : List Int) (ls : List UInt8) : List UInt8 := ls.filter fun c => !trB l z c
theorem filter_step {p : UInt8 → Bool} {l : List UInt8} {k : Nat} {c : UInt8} (h : l[k]? = some c) : (l.take (k + 1)).filter p = (l.take k).filter p ++ (if p c then [c] else []) := by
  rw [List.take_add_one, h, List.filter_append]
  cases hp : p c <;> simp [hp]
set_option maxHeartbeats 2000000 in
theorem c_l21Left (A B : Option Addr) (n c m d : Nat) (l : List TDrill) (z : List Int) (s : ByteArray) (w : World) (ha : Sl drillC w w.heap.size 3 A n l) (hb : Zs w B m z) (hsz : DrSz l) (hz : IdxIn n z) (hm : m ≤ 1048576) (hn : n ≤ 1048576) (hs : s.size ≤ 1048576) :
    Calls Try.prog 58 #[.slice A n c, .slice B m d, .string s] w fun r w' => r = .returned (.string (sb (leftL l z (bl s)))) ∧ Below w.heap.size w w' := by
  have HT := Lib.hid (fun (W : World) (hW : Below w.heap.size w W) (ch : UInt8) (r : Bool) (h : trB l z ch = r) => c_l21Trains A B n c m d l z ch r h W (ha.later hW) (hb.later hW) hsz hz hm hn)
  clear ha hb hz hsz
  go_enter Try.func58, Try.ntmps58
  go_wp2_with fail
  go_loopw [7, 8] (fun v i wr => ∃ k : Nat, k ≤ s.size ∧ i = .int .i64 k ∧ Below w.heap.size w wr ∧ Hid (BRow wr w.heap.size v (((bl s).take k).filter fun c => !trB l z c))) (fun _ i _ => s.size - (intOf i).toNat)
  case atStart => exact ⟨0, Nat.zero_le _, rfl, by (repeat' (first | (with_reducible exact Below.refl _ _) | (with_reducible assumption) | (with_reducible refine below_drewN ?_ _) | (with_reducible refine Below.drew ?_) | (with_reducible refine Below.alloc ?_ ?_ _) | (with_reducible refine Below.setCell ?_ ?_ _) | go_size)), BRow.made _⟩
  case round =>
    obtain ⟨k, hk, rfl, hB, hrow⟩ := hrel
    have hz := hB.size
    by_cases hlt : k < s.size
    · have hg := filter_step (p := fun c => !trB l z c) (bl_get s k hlt)
      have hln := List.length_filter_le (fun c => !trB l z c) ((bl s).take k)
      rw [List.length_take] at hln
      have hln2 : (((bl s).take k).filter fun c => !trB l z c).length + 1 ≤ 1099511627776 := by omega
      have HLN := Lib.hid hln2
      cases g : trB l z s[k] <;> rw [g] at hg <;> have G := Lib.hid g <;> have HG := Lib.hid hg <;> clear g hg hln hln2
      · go_wp2_with (first | (go_at_call 72; refine (HT.out _ hB _ _ G.out).mono ?_; rintro r_ w' ⟨rfl, rfl⟩) | (at_builtin; refine app1 rfl (.tmp 23) (.tmp 27) _ rfl w.heap.size 5 _ 1 Try.underlying62 info_uint8 rfl _ _ rfl _ _ _ rfl hrow.out rfl HLN.out (by omega) hz ?_; intro v' w2 hown2 hb2 hg2))
        go_roundw
        case rel => exact ⟨k + 1, by omega, by go_num, hB.trans hb2, by show BRow _ _ _ (((bl s).take (k + 1)).filter _); rw [HG.out]; exact BRow.snoc hown2⟩
        case measure => simp [intOf]; omega
      · go_wp2_with (go_at_call 72; refine (HT.out _ hB _ _ G.out).mono ?_; rintro r_ w' ⟨rfl, rfl⟩)
        go_roundw
        case rel => exact ⟨k + 1, by omega, by go_num, hB, by show BRow _ _ _ (((bl s).take (k + 1)).filter _); rw [HG.out]; simpa using hrow.out⟩
        case measure => simp [intOf]; omega
    · obtain rfl : k = s.size := by omega
      have h1 := hrow.out
      rw [List.take_of_length_le (by rw [bl_len]; omega)] at h1
      have hconv := h1.text
      clear h1 hrow
      go_wp2_with fail
      go_ret
      exact ⟨rfl, hB⟩
set_option maxHeartbeats 4000000 in
theorem c_trained (A B : Option Addr) (n c m d : Nat) (l : List TDrill) (z : List Int) (w : World) (ha : Sl drillC w w.heap.size 3 A n l) (hb : Zs w B m z) (hsz : DrSz l) (hz : IdxIn n z) (hm : m ≤ 1048576) (hn : n ≤ 1048576) :
    Calls Try.prog 73 #[.slice A n c, .slice B m d] w fun e w' => e = .returned (.pointer (some ⟨w.heap.size, 0, none⟩)) ∧ w'.rowIs w.heap.size 85 256 (mk (z.flatMap (ltAt l))) ∧ Below w.heap.size w w' := by
  have HL := Lib.hid hb.1
  have HA := Lib.hid ha
  have HB := Lib.hid hb
  have HZ := Lib.hid hz
  have HSZ := Lib.hid hsz
  clear ha hb hz hsz
  go_enter Try.func73, Try.ntmps73
  go_wp2_with fail
  go_loopw [13] (fun i wr => ∃ k : Nat, k ≤ m ∧ i = .int .i64 k ∧ Below w.heap.size w wr ∧ Hid (wr.rowIs w.heap.size 85 256 (mk ((z.take k).flatMap (ltAt l))))) (fun i _ => m - (intOf i).toNat)
  case atStart => exact ⟨0, Nat.zero_le _, rfl, by (repeat' (first | (with_reducible exact Below.refl _ _) | (with_reducible assumption) | (with_reducible refine below_drewN ?_ _) | (with_reducible refine Below.drew ?_) | (with_reducible refine Below.alloc ?_ ?_ _) | (with_reducible refine Below.setCell ?_ ?_ _) | go_size)), rowB_new _⟩
  case round =>
    obtain ⟨k, hk, rfl, hBw, hR⟩ := hrel
    by_cases hlt : k < m
    · obtain ⟨b, o, x, rfl, hb1, hb2, hx, c0⟩ := z_at HB.out hBw hlt
      obtain ⟨hx0, hx1⟩ := HZ.out x (List.mem_of_getElem? hx)
      obtain ⟨q, rfl⟩ : ∃ q : Nat, x = (q : Int) := ⟨x.toNat, by omega⟩
      have hqn : q < n := by omega
      obtain ⟨b', o', nm, ls, mi, rfl, hb1', hb2', hy, d0, d1, d2⟩ := drill_at HA.out hBw hqn
      have hs2 : ls.size ≤ 9223372036854775807 := (HSZ.out _ (List.mem_of_getElem? hy)).2
      have hla := ltAt_at hy
      have HX := Lib.hid hx
      have HLA := Lib.hid hla
      have HY := Lib.hid hy
      clear hx hy hla
      go_wp2_with fail
      go_loopw [23] (fun i wr2 => ∃ j : Nat, j ≤ ls.size ∧ i = .int .i64 j ∧ Below w.heap.size w wr2 ∧ Hid (wr2.rowIs w.heap.size 85 256 (mk ((z.take k).flatMap (ltAt l) ++ (bl ls).take j)))) (fun i _ => ls.size - (intOf i).toNat)
      case atStart => exact ⟨0, Nat.zero_le _, rfl, hBw, by show World.rowIs _ _ _ _ (mk (_ ++ (bl ls).take 0)); simpa using hR.out⟩
      case round =>
        clear c0 d0 d1 d2 hb1 hb1' hBw hR
        rename World => wr2
        obtain ⟨j, hj, rfl, hBw, hR⟩ := hrel
        by_cases hlt2 : j < ls.size
        · obtain ⟨_, _, _, hb1', _, hy, d0, d1, d2⟩ := drill_atB HA.out hBw hqn
          rw [HY.out] at hy
          simp only [Option.some.injEq, Prod.mk.injEq] at hy
          obtain ⟨rfl, rfl, rfl⟩ := hy
          have hg := Lib.hid (bl_get ls j hlt2)
          have hltI : (j : Int) < ls.size := by omega
          have hj0 : (0 : Int) ≤ (j : Int) := by omega
          have hc256 := u8_lt ls[j]
          have hcI : (ls[j].toNat : Int) < 256 := by omega
          have hc0 : (0 : Int) ≤ (ls[j].toNat : Int) := by omega
          obtain ⟨v0, r0⟩ : ∃ v, wr2.cell? ⟨w.heap.size, ls[j].toNat, none⟩ = some v := ⟨_, hR.out.cell hc256⟩
          have f0 := hR.out.frozen ls[j].toNat
          have hbw := hR.out.lt
          go_wp2_with fail
          refine wp_region_below_tail 10 (by kernel_rfl) (by kernel_rfl) ?_
          simp only [List.take_succ_cons, List.take_zero, List.drop_succ_cons, List.drop_zero]
          repeat (go_big_quiet_step (fail))
          refine wpQuiet_nil ?_
          intro _ hw'
          obtain ⟨⟨w9, hb9⟩, hw''⟩ := hw'
          subst hw''
          have hB9 := later hb9 (w := w) hBw
          have r1 := (hb9.cell (p := ⟨w.heap.size, ls[j].toNat, none⟩) hbw).trans r0
          have f1 := (hb9.frozen (p := ⟨w.heap.size, ls[j].toNat, none⟩) hbw).trans f0
          have hR9 := Lib.hid (hR.out.of_block (hb9.block _ hbw))
          go_wp2_with fail
          go_roundw
          case rel => exact ⟨j + 1, by omega, by go_num, by (repeat' (first | (with_reducible exact Below.refl _ _) | (with_reducible assumption) | (with_reducible refine below_drewN ?_ _) | (with_reducible refine Below.drew ?_) | (with_reducible refine Below.alloc ?_ ?_ _) | (with_reducible refine Below.setCell ?_ ?_ _) | go_size)), by show World.rowIs _ _ _ _ (mk (_ ++ (bl ls).take (j + 1))); rw [List.take_add_one, hg.out, ← List.append_assoc]; exact mk_set hR9.out⟩
          case measure => simp [intOf]; omega
        · obtain rfl : j = ls.size := by omega
          have h1 := hR.out
          rw [List.take_of_length_le (l := bl ls) (by rw [bl_len]; omega)] at h1
          have H1 := Lib.hid h1
          clear h1 hR
          go_wp2_with fail
          go_roundw
          case rel => exact ⟨k + 1, by omega, by go_num, hBw, by show World.rowIs _ _ _ _ (mk ((z.take (k + 1)).flatMap (ltAt l))); rw [List.take_add_one, HX.out, List.flatMap_append]; simp only [Option.toList, List.flatMap_cons, List.flatMap_nil, List.append_nil]; rw [HLA.out]; exact H1.out⟩
          case measure => simp [intOf]; omega
    · obtain rfl : k = m := by omega
      have h1 := hR.out
      rw [List.take_of_length_le (by rw [HL.out]; omega)] at h1
      have H1 := Lib.hid h1
      clear h1 hR
      go_wp2_with fail
      go_ret
      exact ⟨rfl, H1.out, hBw⟩
end Go.Proofs.Ytnjmjopbeojfoaa
