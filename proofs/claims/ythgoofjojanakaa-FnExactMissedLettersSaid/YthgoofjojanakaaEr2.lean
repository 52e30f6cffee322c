/- Contracts: the errors in an alignment. -/
import Derived.Test.YthgoofjojanakaaEr1
import Derived.Test.YthgoofjojanakaaI64
import Derived.Lib.SlBytesConst
namespace Go.Proofs.Ythgoofjojanakaa
open Go.RowKit Go.BigFrame
attribute [local go_sem] sub_cell sub_frozen drewN_setCell

theorem own_ne_row {w : World} {base n m sz g : Nat} {e e' : TypeId} {v : Value} {xs : List Value} {f : Nat → Value} (h : w.ownsRow base e sz v n xs) (hr : w.rowIs g e' m f) (hne : e ≠ e') : v.ownBlock ≠ some g := by
  intro hk
  rcases h.2 with ⟨rfl, _⟩ | ⟨g', cap, cur, rfl, _, hg, _⟩
  · simp [Value.ownBlock] at hk
  · simp only [Value.ownBlock, Option.some.injEq] at hk
    subst hk
    obtain ⟨cs, h1, _⟩ := hr
    rw [hg] at h1
    simp only [Option.some.injEq, Obj.cells.injEq] at h1
    exact hne h1.2.1
theorem own_ne_cells {w : World} {base n sz g : Nat} {e e' : TypeId} {v : Value} {xs : List Value} {C : Array Value} {fz : Nat × Nat} (h : w.ownsRow base e sz v n xs) (hr : w.heap[g]? = some (.cells C e' fz)) (hne : e ≠ e') : v.ownBlock ≠ some g := by
  intro hk
  rcases h.2 with ⟨rfl, _⟩ | ⟨g', cap, cur, rfl, _, hg, _⟩
  · simp [Value.ownBlock] at hk
  · simp only [Value.ownBlock, Option.some.injEq] at hk
    subst hk
    rw [hg] at hr
    simp only [Option.some.injEq, Obj.cells.injEq] at hr
    exact hne hr.2.1
theorem cells_grown {w w' : World} {row : Option Nat} {g : Nat} {o : Obj} (h : w.heap[g]? = some o) (hg : w.grownBy w' row) (hne : row ≠ some g) : w'.heap[g]? = some o :=
  (hg.block g (Array.getElem?_eq_some_iff.1 h).1 (fun e => hne e.symm)).trans h
theorem row_grown {w w' : World} {row : Option Nat} {g n : Nat} {e : TypeId} {f : Nat → Value} (h : w.rowIs g e n f) (hg : w.grownBy w' row) (hne : row ≠ some g) : w'.rowIs g e n f :=
  h.of_block (hg.block g h.lt (fun e => hne e.symm))
theorem own_of_row {w : World} {base g n : Nat} {e : TypeId} {f : Nat → Value} (h : w.rowIs g e n f) (hb : base ≤ g) (hn : n ≤ maxLen) : w.ownsRow base e 1 (.slice (some ⟨g, 0, none⟩) n n) n ((List.range n).map f) := by
  obtain ⟨cs, h1, h2, h3⟩ := h
  refine ⟨by simp, .inr ⟨g, n, cs, rfl, hb, h1, Nat.le_refl _, hn, by omega, ?_⟩⟩
  apply List.ext_getElem?
  intro i
  simp only [List.getElem?_take, List.getElem?_map]
  by_cases hi : i < n
  · have h4 := h3 i hi
    simp [hi, h4]
  · simp [hi]

/-- The four counts of an alignment. -/
def errN (l : List UInt8) : List Int := [43, 45, 120, 126].map fun (c : UInt8) => (cntB c l : Int)
def errZ (l : List UInt8) : List Int := if stepsB l then errN l else []
def errC (l : List UInt8) : Int := if stepsB l then 0 else 7
theorem errZ_len (l : List UInt8) : (errZ l).length ≤ 4 := by
  unfold errZ
  split
  · simp [errN]
  · simp
def byte4 (k : Nat) : UInt8 := ([43, 45, 120, 126] : List UInt8).getD k 0
theorem idx4 (c : UInt8) : (idxA [43, 45, 120, 126] c 0 = 0 ∧ c = 43) ∨ (idxA [43, 45, 120, 126] c 0 = 1 ∧ c = 45) ∨ (idxA [43, 45, 120, 126] c 0 = 2 ∧ c = 120) ∨ (idxA [43, 45, 120, 126] c 0 = 3 ∧ c = 126) ∨ (idxA [43, 45, 120, 126] c 0 = -1 ∧ c ≠ 43 ∧ c ≠ 45 ∧ c ≠ 120 ∧ c ≠ 126) := by
  by_cases h1 : c = 43
  · subst h1; simp [idxA]
  by_cases h2 : c = 45
  · subst h2; simp [idxA]
  by_cases h3 : c = 120
  · subst h3; simp [idxA]
  by_cases h4 : c = 126
  · subst h4; simp [idxA]
  simp [idxA, h1, h2, h3, h4, eq_comm (b := c)]
theorem errN_bytes (l : List UInt8) : errN l = (List.range 4).map fun k => (cntB (byte4 k) l : Int) := by rfl

def bytes4 : Array Value := #[.int .u8 43, .int .u8 45, .int .u8 120, .int .u8 126]
theorem bytes4_at (k : Nat) (h : k < 4) : bytes4[k]? = some (.int .u8 ((byte4 k).toNat : Int)) := by
  match k, h with
  | 0, _ => rfl
  | 1, _ => rfl
  | 2, _ => rfl
  | 3, _ => rfl
def cell4 (a b c d : Nat) (i : Nat) : Value := match i with | 0 => .int .i64 (a : Int) | 1 => .int .i64 (b : Int) | 2 => .int .i64 (c : Int) | _ => .int .i64 (d : Int)

set_option maxHeartbeats 2000000 in
theorem c_sErrorsIn (s : ByteArray) (w : World) (hs : s.size ≤ maxLen) :
    Calls Try.prog 12 #[.string s] w (IntsPost (errZ (bl s)) (errC (bl s)) w) := by
  cases hst : stepsB (bl s)
  · rw [errZ, errC, hst]
    have HS := Lib.hid hst
    clear hst
    go_enter Try.func12, Try.ntmps12
    go_wp2_with (go_at_call 37; refine (c_l19Steps _ _ HS.out _ hs).mono ?_; rintro r_ w' ⟨rfl, rfl⟩)
    go_returns
    exact IntsPost.mk_ rfl (World.ownsRow_nil _ _ _ _) (Below.refl _ _)
  · rw [errZ, errC, hst]
    have HS := Lib.hid hst
    clear hst
    unfold maxLen at hs
    have hmk : ∀ W : World, (Instr.makeSlice 22 (.int .i64 4) (.int .i64 4)).run Try.prog W = .ok (.slice (some ⟨W.heap.size, 0, none⟩) 4 4) (W.alloc (.cells (madeCells (Value.cells (.int .i64 0)) 4) 2)) := run_make_any (P := Try.prog) 22 2 _ 1 8 Try.underlying22 info_int64 .i64 .i64 4 (by omega) (by omega)
    go_enter Try.func12, Try.ntmps12
    go_wp2_with (go_at_call 37; refine (c_l19Steps _ _ HS.out _ hs).mono ?_; rintro r_ w' ⟨rfl, rfl⟩)
    go_loopw [5] (fun i wr => ∃ k m0 m1 m2 m3 : Nat, k ≤ s.size ∧ m0 ≤ k ∧ m1 ≤ k ∧ m2 ≤ k ∧ m3 ≤ k ∧ i = .int .i64 k ∧ wr.rowIs w.heap.size 2 4 (cell4 m0 m1 m2 m3) ∧ Below w.heap.size w wr ∧ Hid (cntB 43 ((bl s).take k) = m0 ∧ cntB 45 ((bl s).take k) = m1 ∧ cntB 120 ((bl s).take k) = m2 ∧ cntB 126 ((bl s).take k) = m3)) (fun i _ => s.size - (intOf i).toNat)
    case atStart =>
      refine ⟨0, 0, 0, 0, 0, by omega, by omega, by omega, by omega, by omega, rfl, ?_, by (repeat' (first | (with_reducible exact Below.refl _ _) | (with_reducible assumption) | (with_reducible refine below_drewN ?_ _) | (with_reducible refine Below.drew ?_) | (with_reducible refine Below.alloc ?_ ?_ _) | (with_reducible refine Below.setCell ?_ ?_ _) | go_size)), rfl, rfl, rfl, rfl⟩
      exact (rowIs_made (Value.cells (.int .i64 0)) 4 _).congr (fun i hi => by match i with | 0 => rfl | 1 => rfl | 2 => rfl | 3 => rfl)
    case round =>
      obtain ⟨k, m0, m1, m2, m3, hk, h0, h1, h2, h3, rfl, hrow, hB, hn⟩ := hrel
      have hz := hB.size
      by_cases hlt : k < s.size
      · have hg := Lib.hid (bl_get s k hlt)
        have r0 : wr.cell? ⟨w.heap.size, 0, none⟩ = some (.int .i64 m0) := hrow.cell (by omega)
        have r1 : wr.cell? ⟨w.heap.size, 1, none⟩ = some (.int .i64 m1) := hrow.cell (by omega)
        have r2 : wr.cell? ⟨w.heap.size, 2, none⟩ = some (.int .i64 m2) := hrow.cell (by omega)
        have r3 : wr.cell? ⟨w.heap.size, 3, none⟩ = some (.int .i64 m3) := hrow.cell (by omega)
        have f0 := hrow.frozen 0
        have f1 := hrow.frozen 1
        have f2 := hrow.frozen 2
        have f3 := hrow.frozen 3
        have HR := Lib.hid hrow
        clear hrow
        have s0 := cntB_step (c := 43) (bl_get s k hlt)
        have s1 := cntB_step (c := 45) (bl_get s k hlt)
        have s2 := cntB_step (c := 120) (bl_get s k hlt)
        have s3 := cntB_step (c := 126) (bl_get s k hlt)
        rw [hn.out.1] at s0
        rw [hn.out.2.1] at s1
        rw [hn.out.2.2.1] at s2
        rw [hn.out.2.2.2] at s3
        rcases idx4 s[k] with ⟨e, ec⟩ | ⟨e, ec⟩ | ⟨e, ec⟩ | ⟨e, ec⟩ | ⟨e, e1, e2, e3, e4⟩
        · rw [ec] at s0 s1 s2 s3
          have S := Lib.hid (And.intro s0 (And.intro s1 (And.intro s2 s3)))
          have C := Lib.hid (fun W => e ▸ c_l05Index ⟨#[43, 45, 120, 126]⟩ s[k] W (by decide))
          clear s0 s1 s2 s3 e ec
          go_wp2_with (go_at_call 38; refine (C.out _).mono ?_; rintro r_ w' ⟨rfl, rfl⟩)
          go_roundw
          case rel => exact ⟨k + 1, m0 + 1, m1, m2, m3, by omega, by omega, by omega, by omega, by omega, by go_num, (HR.out.set _ _).congr (fun i hi => by match i with | 0 => simp [cell4] | 1 => simp [cell4] | 2 => simp [cell4] | 3 => simp [cell4]), hB.setCell (Nat.le_refl _) _, S.out⟩
          case measure => simp [intOf]; omega
        · rw [ec] at s0 s1 s2 s3
          have S := Lib.hid (And.intro s0 (And.intro s1 (And.intro s2 s3)))
          have C := Lib.hid (fun W => e ▸ c_l05Index ⟨#[43, 45, 120, 126]⟩ s[k] W (by decide))
          clear s0 s1 s2 s3 e ec
          go_wp2_with (go_at_call 38; refine (C.out _).mono ?_; rintro r_ w' ⟨rfl, rfl⟩)
          go_roundw
          case rel => exact ⟨k + 1, m0, m1 + 1, m2, m3, by omega, by omega, by omega, by omega, by omega, by go_num, (HR.out.set _ _).congr (fun i hi => by match i with | 0 => simp [cell4] | 1 => simp [cell4] | 2 => simp [cell4] | 3 => simp [cell4]), hB.setCell (Nat.le_refl _) _, S.out⟩
          case measure => simp [intOf]; omega
        · rw [ec] at s0 s1 s2 s3
          have S := Lib.hid (And.intro s0 (And.intro s1 (And.intro s2 s3)))
          have C := Lib.hid (fun W => e ▸ c_l05Index ⟨#[43, 45, 120, 126]⟩ s[k] W (by decide))
          clear s0 s1 s2 s3 e ec
          go_wp2_with (go_at_call 38; refine (C.out _).mono ?_; rintro r_ w' ⟨rfl, rfl⟩)
          go_roundw
          case rel => exact ⟨k + 1, m0, m1, m2 + 1, m3, by omega, by omega, by omega, by omega, by omega, by go_num, (HR.out.set _ _).congr (fun i hi => by match i with | 0 => simp [cell4] | 1 => simp [cell4] | 2 => simp [cell4] | 3 => simp [cell4]), hB.setCell (Nat.le_refl _) _, S.out⟩
          case measure => simp [intOf]; omega
        · rw [ec] at s0 s1 s2 s3
          have S := Lib.hid (And.intro s0 (And.intro s1 (And.intro s2 s3)))
          have C := Lib.hid (fun W => e ▸ c_l05Index ⟨#[43, 45, 120, 126]⟩ s[k] W (by decide))
          clear s0 s1 s2 s3 e ec
          go_wp2_with (go_at_call 38; refine (C.out _).mono ?_; rintro r_ w' ⟨rfl, rfl⟩)
          go_roundw
          case rel => exact ⟨k + 1, m0, m1, m2, m3 + 1, by omega, by omega, by omega, by omega, by omega, by go_num, (HR.out.set _ _).congr (fun i hi => by match i with | 0 => simp [cell4] | 1 => simp [cell4] | 2 => simp [cell4] | 3 => simp [cell4]), hB.setCell (Nat.le_refl _) _, S.out⟩
          case measure => simp [intOf]; omega
        · rw [beq_eq_false_iff_ne.2 e1] at s0
          rw [beq_eq_false_iff_ne.2 e2] at s1
          rw [beq_eq_false_iff_ne.2 e3] at s2
          rw [beq_eq_false_iff_ne.2 e4] at s3
          have S := Lib.hid (And.intro s0 (And.intro s1 (And.intro s2 s3)))
          have C := Lib.hid (fun W => e ▸ c_l05Index ⟨#[43, 45, 120, 126]⟩ s[k] W (by decide))
          clear s0 s1 s2 s3 e e1 e2 e3 e4
          go_wp2_with (go_at_call 38; refine (C.out _).mono ?_; rintro r_ w' ⟨rfl, rfl⟩)
          go_roundw
          case rel => exact ⟨k + 1, m0, m1, m2, m3, by omega, by omega, by omega, by omega, by omega, by go_num, HR.out, hB, S.out⟩
          case measure => simp [intOf]; omega
      · go_wp2_with fail
        go_returns
        obtain rfl : k = s.size := by omega
        have hn1 := hn.out
        rw [List.take_of_length_le (by rw [bl_len]; omega)] at hn1
        obtain ⟨rfl, rfl, rfl, rfl⟩ := hn1
        exact IntsPost.mk_ rfl (own_of_row hrow (Nat.le_refl _) (by decide)) hB

set_option maxHeartbeats 2000000 in
theorem c_iErrorsIn (s : ByteArray) (w : World) (hs : s.size ≤ maxLen) :
    Calls Try.prog 13 #[.string s] w (IntsPost (errZ (bl s)) (errC (bl s)) w) := by
  cases hst : stepsB (bl s)
  · rw [errZ, errC, hst]
    have HS := Lib.hid hst
    clear hst
    go_enter Try.func13, Try.ntmps13
    go_wp2_with (go_at_call 39; refine (c_areSteps _ _ HS.out _ hs).mono ?_; rintro r_ w' ⟨rfl, rfl⟩)
    go_returns
    exact IntsPost.mk_ rfl (World.ownsRow_nil _ _ _ _) (Below.refl _ _)
  · rw [errZ, errC, hst]
    have HS := Lib.hid hst
    clear hst
    have hsz : (w.alloc (.cells #[] 2)).heap.size = w.heap.size + 1 := Array.size_push _
    have kc := Lib.run_convert_bytes_const (P := Try.prog) (w.alloc (.cells #[] 2)) 51 5 #[.int .u8 43, .int .u8 45, .int .u8 120, .int .u8 126] 4 4 Try.underlying51 Try.underlying5
    rw [hsz] at kc
    clear hsz
    go_enter Try.func13, Try.ntmps13
    go_wp2_with (go_at_call 39; refine (c_areSteps _ _ HS.out _ hs).mono ?_; rintro r_ w' ⟨rfl, rfl⟩)
    go_loopw [4, 14] (fun v i wr => ∃ k : Nat, k ≤ 4 ∧ i = .int .i64 k ∧ wr.ownsRow w.heap.size 2 1 v k (((List.range k).map fun j => (cntB (byte4 j) (bl s) : Int)).map (Value.int .i64)) ∧ wr.heap[w.heap.size + 1]? = some (.cells bytes4 5 (4, 5)) ∧ Below w.heap.size w wr) (fun _ i _ => 4 - (intOf i).toNat)
    case atStart =>
      refine ⟨0, by omega, rfl, ?_, ?_, by (repeat' (first | (with_reducible exact Below.refl _ _) | (with_reducible assumption) | (with_reducible refine below_drewN ?_ _) | (with_reducible refine Below.drew ?_) | (with_reducible refine Below.alloc ?_ ?_ _) | (with_reducible refine Below.setCell ?_ ?_ _) | go_size))⟩
      · exact (World.ownsRow_made w #[] 0 (Nat.le_refl _) (by decide) rfl).alloc _
      · have h := Array.getElem?_push_size (xs := w.heap.push (.cells #[] 2)) (x := .cells bytes4 5 (4, 5))
        rw [Array.size_push] at h
        exact h
    case round =>
      obtain ⟨k, hk, rfl, hown, hrow, hB⟩ := hrel
      have hz := hB.size
      by_cases hlt : k < 4
      · have r0 : wr.cell? ⟨w.heap.size + 1, k, none⟩ = some (.int .u8 ((byte4 k).toNat : Int)) := by simp only [World.cell?, hrow]; exact bytes4_at k hlt
        have HO := Lib.hid hown
        have HR := Lib.hid hrow
        clear hown hrow
        go_wp2_with (first | (go_at_call 40; refine (c_countByte _ _ _ hs).mono ?_; rintro r_ w' ⟨rfl, rfl⟩) | (at_builtin; refine app1 rfl (.tmp 18) (.tmp 22) _ rfl w.heap.size 2 _ 8 Try.underlying22 info_int64 rfl _ _ rfl _ _ _ rfl HO.out rfl (by omega) (by omega) hz ?_; intro v' w2 hown2 hb2 hg2))
        go_roundw
        case rel => exact ⟨k + 1, by omega, by go_num, by simpa [List.range_succ] using hown2, cells_grown HR.out hg2 (own_ne_cells HO.out HR.out (by decide)), hB.trans hb2⟩
        case measure => simp [intOf]; omega
      · go_wp2_with fail
        go_returns
        obtain rfl : k = 4 := by omega
        exact IntsPost.mk_ rfl hown hB
end Go.Proofs.Ythgoofjojanakaa
