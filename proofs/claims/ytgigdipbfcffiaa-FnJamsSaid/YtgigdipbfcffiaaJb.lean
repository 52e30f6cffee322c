/- Contracts: lists of strokes that jam (the program). -/
import Derived.Test.YtgigdipbfcffiaaJa
namespace Go.Proofs.Ytgigdipbfcffiaa
open Go.RowKit Go.BigFrame
attribute [local go_sem] sub_cell sub_frozen drewN_setCell

def strokeC (s : Int × Int) : List Value := [.int .i64 s.1, .int .i64 s.2]
theorem strokeC_len (s : Int × Int) : (strokeC s).length = 2 := rfl
theorem stroke_at {w wr : World} {A : Option Addr} {n k : Nat} {l : List (Int × Int)} (h : Sl strokeC w w.heap.size 2 A n l) (hb : Below w.heap.size w wr) (hk : k < n) :
    ∃ b o s t, A = some ⟨b, o, none⟩ ∧ b < wr.heap.size ∧ b < w.heap.size ∧ l[k]? = some (s, t) ∧ wr.cell? ⟨b, o + k * 2, none⟩ = some (.int .i64 s) ∧ wr.cell? ⟨b, o + k * 2 + 1, none⟩ = some (.int .i64 t) := by
  obtain ⟨b, o, ⟨s, t⟩, hA, hlt, hx, hc⟩ := h.at_ hk
  have := hb.size
  refine ⟨b, o, s, t, hA, by omega, hlt, hx, ?_, ?_⟩
  · exact (hb.cell (p := ⟨b, o + k * 2, none⟩) hlt).trans (hc 0 _ rfl)
  · exact (hb.cell (p := ⟨b, o + k * 2 + 1, none⟩) hlt).trans (hc 1 _ rfl)
theorem stroke_atB {w wr : World} {b o n k : Nat} {l : List (Int × Int)} (h : Sl strokeC w w.heap.size 2 (some ⟨b, o, none⟩) n l) (hb : Below w.heap.size w wr) (hk : k < n) :
    ∃ s t, b < wr.heap.size ∧ b < w.heap.size ∧ l[k]? = some (s, t) ∧ wr.cell? ⟨b, o + k * 2, none⟩ = some (.int .i64 s) ∧ wr.cell? ⟨b, o + k * 2 + 1, none⟩ = some (.int .i64 t) := by
  obtain ⟨b', o', s, t, hA, r⟩ := stroke_at h hb hk
  simp only [Option.some.injEq, Addr.mk.injEq, and_true] at hA
  obtain ⟨rfl, rfl⟩ := hA
  exact ⟨s, t, r⟩
/-- Strokes of a basket. -/
def StL (B : Int) (l : List (Int × Int)) : Prop := l.length ≤ 60 ∧ (∀ s ∈ l, 0 ≤ s.1 ∧ s.1 < B ∧ 0 ≤ s.2 ∧ s.2 ≤ 1000000) ∧ ∀ i s t, l[i]? = some s → l[i + 1]? = some t → s.2 ≤ t.2
def jmL (R F C N : Int) (l : List (Int × Int)) (i k : Nat) : Bool := match l[i]?, l[k]? with | some s, some t => jmV R F C N s t | _, _ => false
theorem jmL_eq {R F C N : Int} {l : List (Int × Int)} {i k : Nat} {s t : Int × Int} (hi : l[i]? = some s) (hk : l[k]? = some t) : jmL R F C N l i k = jmV R F C N s t := by simp [jmL, hi, hk]
theorem cells5_of {w : World} {b : Nat} {T : TypeId} {x0 x1 x2 x3 x4 : Value} (h : w.heap[b]? = some (.cells #[x0, x1, x2, x3, x4] T)) : w.cell? ⟨b, 0, none⟩ = some x0 ∧ w.cell? ⟨b, 1, none⟩ = some x1 ∧ w.cell? ⟨b, 2, none⟩ = some x2 ∧ w.cell? ⟨b, 3, none⟩ = some x3 ∧ w.cell? ⟨b, 4, none⟩ = some x4 ∧ ∀ k, w.frozen? ⟨b, k, none⟩ = false := by
  refine ⟨?_, ?_, ?_, ?_, ?_, fun k => ?_⟩ <;> simp [World.cell?, World.frozen?, h]
/-- The basket's numbers lie in block b. -/
abbrev BkAt (w : World) (b : Nat) (B R F C N : Int) : Prop := w.heap[b]? = some (.cells #[.int .i64 B, .int .i64 R, .int .i64 F, .int .i64 C, .int .i64 N] 41)

set_option maxHeartbeats 2000000 in
theorem c_ValidStrokes (B R F C N : Int) (h : OkK B R F C N) (A : Option Addr) (n c : Nat) (l : List (Int × Int)) (hl : StL B l) (w : World) (ha : Sl strokeC w w.heap.size 2 A n l) :
    Calls Try.prog 34 #[bkt B R F C N, .slice A n c] w fun e w' => e = .returned (.bool true) ∧ Below w.heap.size w w' := by
  have n60 : n ≤ 60 := by have := ha.1; have := hl.1; omega
  have HA := Lib.hid ha
  have CH := Lib.hid (fun b (b0 : 0 ≤ b) (b1 : b < B) w => c_hasBar B R F C N b h b0 b1 w)
  have CV := Lib.hid (fun w => c_ValidBasket B R F C N h w)
  have HS := Lib.hid hl
  clear h hl ha
  go_enter Try.func34, Try.ntmps34
  go_wp2_with fail
  refine (CV.out _).mono ?_
  rintro r_ w1 ⟨rfl, hb1⟩
  have H1 : Hid (BkAt w1 w.heap.size B R F C N) := Lib.hid ((hb1.block w.heap.size (by simp)).trans (by simp [World.alloc, -World.alloc_eq]))
  have hq1 : w.heap.size < w1.heap.size := by have := hb1.size; simp at this; omega
  have hB1 := later hb1 (w := w) (by (repeat' (first | (with_reducible exact Below.refl _ _) | (with_reducible assumption) | (with_reducible refine below_drewN ?_ _) | (with_reducible refine Below.drew ?_) | (with_reducible refine Below.alloc ?_ ?_ _) | (with_reducible refine Below.setCell ?_ ?_ _) | go_size)))
  have HB1 := Lib.hid hB1
  have HA1 := Lib.hid (HA.out.later hB1)
  clear hb1 hB1
  go_wp2_with fail
  go_loopw [5, 18] (fun v i wr => ∃ (k : Nat) (z : Int), k ≤ n ∧ i = .int .i64 k ∧ v = .int .i64 z ∧ 0 ≤ z ∧ z ≤ 1000000 ∧ Hid (∀ s, l[k]? = some s → z ≤ s.2) ∧ Below w1.heap.size w1 wr) (fun _ i _ => n - (intOf i).toNat)
  case atStart => exact ⟨0, 0, Nat.zero_le _, rfl, rfl, by omega, by omega, Lib.hid (fun s hs => (HS.out.2.1 s (List.mem_of_getElem? hs)).2.2.1), Below.refl _ _⟩
  case round =>
    obtain ⟨k, z, hk, rfl, rfl, z0, z1, hz, hB⟩ := hrel
    rename World => wr
    have hs := hB.size
    have hql : w.heap.size < wr.heap.size := by omega
    by_cases hlt : k < n
    · obtain ⟨b, o, s, t, rfl, hb1, hb2, hx, c0, c1⟩ := stroke_at HA1.out hB hlt
      obtain ⟨s0, s1, t0, t1⟩ := HS.out.2.1 _ (List.mem_of_getElem? hx)
      have hzt := hz.out _ hx
      have b1 : betw t z 1000000 = true := betw_in hzt t1
      have HX := Lib.hid hx
      have CHs := Lib.hid (CH.out s s0 s1)
      obtain ⟨p0, p1, p2, p3, p4, _⟩ := cells5_of ((hB.block w.heap.size (by omega)).trans H1.out)
      clear hx hz
      go_wp2_with (first
        | (go_at_call 41; refine (c_between _ _ _ _ (by assumption) _).mono ?_; rintro r_ w2 ⟨rfl, rfl⟩)
        | (go_at_call 37; refine (CHs.out _).mono ?_; rintro r_ w2 ⟨rfl, hb2⟩; have hB2 := later hb2 (w := w1) (by (repeat' (first | (with_reducible exact Below.refl _ _) | (with_reducible assumption) | (with_reducible refine below_drewN ?_ _) | (with_reducible refine Below.drew ?_) | (with_reducible refine Below.alloc ?_ ?_ _) | (with_reducible refine Below.setCell ?_ ?_ _) | go_size))); have hz2 := hB2.size; have hy2 := hb2.size; obtain ⟨hc2, hf2⟩ := bcell hb2; (try simp only [World.size_alloc, World.heap_drewN] at hc2 hf2 hy2); clear hb2))
      go_roundw
      case rel => exact ⟨k + 1, t, by omega, by go_num, rfl, by omega, by omega, Lib.hid (fun s' hs' => HS.out.2.2 k _ s' HX.out hs'), by (repeat' (first | (with_reducible exact Below.refl _ _) | (with_reducible assumption) | (with_reducible refine below_drewN ?_ _) | (with_reducible refine Below.drew ?_) | (with_reducible refine Below.alloc ?_ ?_ _) | (with_reducible refine Below.setCell ?_ ?_ _) | go_size))⟩
      case measure => simp [intOf]; omega
    · go_wp2_with fail
      go_ret
      exact ⟨rfl, HB1.out.trans (hB.mono HB1.out.size)⟩
/-- What the first jam is told as. -/
def fjR (o : Option (Nat × Nat)) : Value := match o with
  | some z => .tuple #[.int .i64 (z.1 : Int), .int .i64 (z.2 : Int), .int .i64 0]
  | none => .tuple #[.int .i64 0, .int .i64 0, .int .i64 3]
set_option maxRecDepth 20000 in
set_option maxHeartbeats 4000000 in
theorem c_FirstJam (B R F C N : Int) (h : OkK B R F C N) (A : Option Addr) (n c : Nat) (l : List (Int × Int)) (hl : StL B l) (w : World) (ha : Sl strokeC w w.heap.size 2 A n l) :
    Calls Try.prog 18 #[bkt B R F C N, .slice A n c] w fun e w' => e = .returned (fjR (fjx (jmL R F C N l) n)) ∧ Below w.heap.size w w' := by
  have n60 : n ≤ 60 := by have := ha.1; have := hl.1; omega
  have HA := Lib.hid ha
  have h60 : B ≤ 60 := h.2.1
  have CJ := Lib.hid (fun (s t : Int × Int) r (hr : jmV R F C N s t = r) (a0 : 0 ≤ s.1) (a1 : s.1 < B) (c0 : 0 ≤ t.1) (c1 : t.1 < B) (s0 : 0 ≤ s.2) (s1 : s.2 ≤ 1000000) (t0 : 0 ≤ t.2) (t1 : t.2 ≤ 1000000) w => c_jams B R F C N s t r h hr a0 (by omega) c0 (by omega) s0 s1 t0 t1 w)
  have CV := Lib.hid (fun w (hw : Sl strokeC w w.heap.size 2 A n l) => c_ValidStrokes B R F C N h A n c l hl w hw)
  have HS := Lib.hid hl
  clear h hl ha
  generalize hq : jmL R F C N l = q at *
  have HQ := Lib.hid hq
  clear hq
  go_enter Try.func18, Try.ntmps18
  go_wp2_with fail
  refine (CV.out _ (HA.out.later (by (repeat' (first | (with_reducible exact Below.refl _ _) | (with_reducible assumption) | (with_reducible refine below_drewN ?_ _) | (with_reducible refine Below.drew ?_) | (with_reducible refine Below.alloc ?_ ?_ _) | (with_reducible refine Below.setCell ?_ ?_ _) | go_size))))).mono ?_
  rintro r_ w1 ⟨rfl, hb1⟩
  have H1 : Hid (BkAt w1 w.heap.size B R F C N) := Lib.hid ((hb1.block w.heap.size (by simp)).trans (by simp [World.alloc, -World.alloc_eq]))
  have hq1 : w.heap.size < w1.heap.size := by have := hb1.size; simp at this; omega
  have hB1 := later hb1 (w := w) (by (repeat' (first | (with_reducible exact Below.refl _ _) | (with_reducible assumption) | (with_reducible refine below_drewN ?_ _) | (with_reducible refine Below.drew ?_) | (with_reducible refine Below.alloc ?_ ?_ _) | (with_reducible refine Below.setCell ?_ ?_ _) | go_size)))
  have HB1 := Lib.hid hB1
  have HA1 := Lib.hid (HA.out.later hB1)
  clear hb1 hB1
  go_wp2_with fail
  go_loopw [15] (fun i wr => ∃ k : Nat, k ≤ n ∧ i = .int .i64 k ∧ Hid (fjx q k = none) ∧ Below w1.heap.size w1 wr) (fun i _ => n - (intOf i).toNat)
  case atStart => exact ⟨0, Nat.zero_le _, rfl, Lib.hid rfl, Below.refl _ _⟩
  case round =>
    obtain ⟨i, hi, rfl, hf, hB⟩ := hrel
    rename World => wo
    have hs := hB.size
    by_cases hlt : i < n
    · obtain ⟨b, o, s, t, rfl, hb1, hb2, hx, _, _⟩ := stroke_at HA1.out hB hlt
      obtain ⟨s0, s1, t0, t1⟩ := HS.out.2.1 _ (List.mem_of_getElem? hx)
      have HX := Lib.hid hx
      have HBO := Lib.hid hB
      have HF := hf
      clear hx hf hB
      go_wp2_with fail
      go_loopw [19] (fun j wr => ∃ k : Nat, k ≤ i ∧ j = .int .i64 k ∧ Hid (rowF (q i) k = none) ∧ Below w1.heap.size w1 wr) (fun j _ => i - (intOf j).toNat)
      case atStart => exact ⟨0, Nat.zero_le _, rfl, Lib.hid rfl, HBO.out⟩
      case round =>
        obtain ⟨k, hk, rfl, hr, hB⟩ := hrel
        rename World => wi
        have hs2 := hB.size
        have hql : w.heap.size < wi.heap.size := by omega
        by_cases hlt2 : k < i
        · obtain ⟨s', t', e0, _, hx', c0, c1⟩ := stroke_atB HA1.out hB (k := k) (by omega)
          obtain ⟨s2, t2, _, _, hx2, d0_, d1_⟩ := stroke_atB HA1.out hB hlt
          rw [HX.out] at hx2
          simp only [Option.some.injEq, Prod.mk.injEq] at hx2
          obtain ⟨rfl, rfl⟩ := hx2
          obtain ⟨s0', s1', t0', t1'⟩ := HS.out.2.1 _ (List.mem_of_getElem? hx')
          have hqe : q i k = jmV R F C N (s, t) (s', t') := by rw [← HQ.out]; exact jmL_eq HX.out hx'
          obtain ⟨p0, p1, p2, p3, p4, _⟩ := cells5_of ((hB.block w.heap.size (by omega)).trans H1.out)
          have i1 : (i : Int) < n := by omega
          have i2 : (k : Int) < n := by omega
          have HR := hr
          clear hx' hr
          cases hj : q i k
          · have HJ := Lib.hid (CJ.out (s, t) (s', t') false (by rw [← hqe]; exact hj) s0 s1 s0' s1' t0 t1 t0' t1')
            have HJ2 := Lib.hid hj
            clear hqe hj
            go_wp2_with fail
            refine wp_region_below (by kernel_rfl) (by kernel_rfl) ?_
            repeat (go_big_quiet_step ((go_at_call 35; refine qBg (HJ.out _) (by simp) ?_; intro w_ h_; first | exact h_ | exact h_.below | (subst h_; exact Below.refl _ _) | (subst h_; (repeat' (first | (with_reducible exact Below.refl _ _) | (with_reducible assumption) | (with_reducible refine below_drewN ?_ _) | (with_reducible refine Below.drew ?_) | (with_reducible refine Below.alloc ?_ ?_ _) | (with_reducible refine Below.setCell ?_ ?_ _) | go_size))) | (obtain ⟨n_, rfl⟩ := h_; (repeat' (first | (with_reducible exact Below.refl _ _) | (with_reducible assumption) | (with_reducible refine below_drewN ?_ _) | (with_reducible refine Below.drew ?_) | (with_reducible refine Below.alloc ?_ ?_ _) | (with_reducible refine Below.setCell ?_ ?_ _) | go_size))))))
            refine wpQuiet_nil ?_
            intro _ hw'
            obtain ⟨⟨w9, hb9⟩, hw''⟩ := hw'
            subst hw''
            have hB9 := hB.trans (hb9.mono hs2)
            go_wp2_with fail
            go_roundw
            case rel => exact ⟨k + 1, by omega, by go_num, Lib.hid ((rowF_miss HJ2.out).trans HR.out), hB9⟩
            case measure => simp [intOf]; omega
          · have HJ := Lib.hid (CJ.out (s, t) (s', t') true (by rw [← hqe]; exact hj) s0 s1 s0' s1' t0 t1 t0' t1')
            have HJ2 := Lib.hid hj
            clear hqe hj
            go_wp2_with fail
            refine wp_region_below (by kernel_rfl) (by kernel_rfl) ?_
            repeat (go_big_quiet_step ((go_at_call 35; refine qBg (HJ.out _) (by simp) ?_; intro w_ h_; first | exact h_ | exact h_.below | (subst h_; exact Below.refl _ _) | (subst h_; (repeat' (first | (with_reducible exact Below.refl _ _) | (with_reducible assumption) | (with_reducible refine below_drewN ?_ _) | (with_reducible refine Below.drew ?_) | (with_reducible refine Below.alloc ?_ ?_ _) | (with_reducible refine Below.setCell ?_ ?_ _) | go_size))) | (obtain ⟨n_, rfl⟩ := h_; (repeat' (first | (with_reducible exact Below.refl _ _) | (with_reducible assumption) | (with_reducible refine below_drewN ?_ _) | (with_reducible refine Below.drew ?_) | (with_reducible refine Below.alloc ?_ ?_ _) | (with_reducible refine Below.setCell ?_ ?_ _) | go_size))))))
            refine wpQuiet_nil ?_
            intro _ hw'
            obtain ⟨⟨w9, hb9⟩, hw''⟩ := hw'
            subst hw''
            have hB9 := hB.trans (hb9.mono hs2)
            go_wp2_with fail
            go_returns
            exact ⟨by rw [fjx_hit HF.out HR.out hlt2 HJ2.out hlt]; rfl, HB1.out.trans (hB9.mono HB1.out.size)⟩
        · obtain rfl : k = i := by omega
          go_wp2_with fail
          go_roundw
          case rel => exact ⟨k + 1, by omega, by go_num, Lib.hid (by show _ = _; rw [fjx_none HF.out, hr.out]; rfl), hB⟩
          case measure => simp [intOf]; omega
    · obtain rfl : i = n := by omega
      go_wp2_with fail
      go_returns
      exact ⟨by rw [hf.out]; rfl, HB1.out.trans (hB.mono HB1.out.size)⟩
end Go.Proofs.Ytgigdipbfcffiaa
