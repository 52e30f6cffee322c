/- Contract: impl.ranking. -/
import Derived.Test.YtbaomhneboojpaaDoorRk2
import Derived.Test.YtbaomhneboojpaaDoorZs
namespace Go.Proofs.YtbaomhneboojpaaDoor
open Go.RowKit Go.BigFrame Go.Shelf
attribute [local go_sem] sub_cell sub_frozen drewN_setCell

theorem t_res_int : (25 : TypeId) ≠ 2 := by decide
theorem t_ints_int : (33 : TypeId) ≠ 2 := by decide
theorem ne_blk {w : World} {a b : Nat} {c d : Array Value} {s t : TypeId} {f g : Nat × Nat} (h : w.heap[a]? = some (.cells c s f)) (h' : w.heap[b]? = some (.cells d t g)) (hne : s ≠ t) : a ≠ b := by
  rintro rfl
  rw [h] at h'
  simp only [Option.some.injEq, Obj.cells.injEq] at h'
  exact hne h'.2.1

set_option maxHeartbeats 2000000 in
/-- The sort of 2 to 40 places. -/
theorem c_sortOrder {n : Nat} (h2 : 2 ≤ n) (h40 : n ≤ 40) (L O blk c c' base : Nat) (Al : Option Addr) (l : List TResult) (w W : World)
    (ha : Sl resultC w w.heap.size 3 Al n l) (hB : Below w.heap.size w W)
    (hL : W.heap[L]? = some (.cells #[.slice Al n c] 25 (0, 0))) (hO : W.heap[O]? = some (.cells #[.slice (some ⟨blk, 0, none⟩) n c'] 33 (0, 0)))
    (hown : W.ownsRow base 2 1 (.slice (some ⟨blk, 0, none⟩) n c') n ((zl (List.range n)).map (Value.int .i64))) (hbase : w.heap.size ≤ base) :
    Calls Tryd.prog 34 #[.iface 33 (.slice (some ⟨blk, 0, none⟩) n c'), .func (.func 35) #[] #[.pointer (some ⟨L, 0, none⟩), .pointer (some ⟨O, 0, none⟩)]] W fun e w' =>
      e = .returned (.tuple #[]) ∧ w'.ownsRow base 2 1 (.slice (some ⟨blk, 0, none⟩) n c') n ((zl (rkL (btr l) n)).map (Value.int .i64)) ∧ W.grownBy w' (some blk) := by
  haveI : Inhabited (Fin n) := ⟨⟨0, by omega⟩⟩
  rcases hown.2 with ⟨h0, _⟩ | ⟨g, cap, cur, h0, hg, hr, hnc, hcm, hcs, htk⟩
  · simp at h0
  simp only [Value.slice.injEq, Option.some.injEq, Addr.mk.injEq, and_true, true_and] at h0
  obtain ⟨rfl, rfl⟩ := h0
  have hdn : (Array.ofFn fun i : Fin n => i).size = n := by simp
  have hblk : blk < W.heap.size := (Array.getElem?_eq_some_iff.1 hr).1
  have hLlt : L < W.heap.size := (Array.getElem?_eq_some_iff.1 hL).1
  have hOlt : O < W.heap.size := (Array.getElem?_eq_some_iff.1 hO).1
  have hLne := ne_blk hL hr t_res_int
  have hOne := ne_blk hO hr t_ints_int
  have hH : Sort.Holds encF W blk 0 (Array.ofFn fun i : Fin n => i) := by
    have h1 := Go.holds_of_blockI (ss := zl (List.range n)) hr (by rw [zl_len, List.length_range]; simpa using htk)
    intro j hj
    rw [hdn] at hj
    have h3 := h1 j (by simp [zl]; omega)
    rw [getElem!_pos _ j (by simp [zl]; omega)] at h3
    rw [getElem!_pos _ j (by simpa using hj)]
    simpa [zl, encF] using h3
  have hless : LessG Tryd.prog 35 #[.pointer (some ⟨L, 0, none⟩), .pointer (some ⟨O, 0, none⟩)] encF (fun x y : Fin n => btr l x.val y.val) blk 0 (Array.ofFn fun i : Fin n => i).size W := by
    intro dk W' hS hs i j hi hj
    rw [hdn] at hs hi hj
    have hgr := sw_grown hS
    have hB' := hB.grown hgr hB.size (fun k hk => by injection hk with hk; omega)
    obtain ⟨b, o, s, x, e, hA, hb1, hb2, hx, c0, c1, c2⟩ := result_at ha hB' (dk[i]!).isLt
    subst hA
    obtain ⟨s', x', e', _, _, hx', f0, f1, f2⟩ := result_atB ha hB' (dk[j]!).isLt
    have hh := hS.holds hblk hH (by rw [hs, hdn])
    have a0 := (hh i (by omega)).1
    have a1 := (hh j (by omega)).1
    rw [Nat.zero_add] at a0 a1
    have hz := hgr.size
    exact c_rkLess L O blk b o n n c c' i j _ _ s s' x e x' e' _ (btr_of hx hx').symm W' hi hj (dk[i]!).isLt (dk[j]!).isLt (by omega) (by omega) (by omega) (by omega) hb1 (by omega)
      ((swCell hS hLlt hLne).trans (cell_of_one hL)) ((swCell hS hOlt hOne).trans (cell_of_one hO)) a0 a1 c0 c1 c2 f0 f1 f2
  have key := sliceStable_40 (P := Tryd.prog) slLay 33 2 slT slE (by kernel_rfl) (by kernel_rfl) (by kernel_rfl) (by kernel_rfl) 6 (fun _ => by kernel_rfl) (by kernel_rfl) (fun _ => by kernel_rfl) encF (fun _ => rfl)
    (fun x y : Fin n => btr l x.val y.val) (fun x y : Fin n => tieB (btr l) x.val y.val) (tot_tie (btr_wk l)) 35 _ (enters_of Tryd.func35 (by kernel_rfl) rfl) blk 0 c' (Array.ofFn fun i : Fin n => i) (by omega) (by omega)
    55 (by rw [hdn, slK _ h2]; kernel_rfl) true (fun args W => run_callFunc_extern Tryd.func55 (by kernel_rfl) (by kernel_rfl) (by kernel_rfl) (e := Extern.ReflectliteSwapper.swap true) (by kernel_rfl) args W)
    W hless hH hblk (List.pairwise_iff_getElem.2 fun i j hi hj hij => by simp; omega) (by rw [hdn]; exact later_tie)
  rw [hdn] at key
  refine key.mono ?_
  rintro e w' ⟨rfl, d', hS, hP, hR⟩
  refine ⟨rfl, ?_, sw_grown hS⟩
  have hrk := rk_of (btr_wk l) hP hR
  obtain ⟨m, os, rfl⟩ := sw_fin hS
  have e1 : (d'.map fun x : Fin n => (x.val : Int)) = (zl (rkL (btr l) n)).toArray := by
    rw [← hrk]
    apply Array.ext'
    simp [zl]
  rw [e1]
  have hl := (rkL_ok (btr_wk l) n).len
  have := Go.ownsRow_sortedI (w := W) (n := m) (os := os) (ss := zl (List.range n)) (ts := zl (rkL (btr l) n)) (by rw [zl_len, zl_len, hl]; simp) hg hr (by rw [zl_len]; simpa using hnc) hcm hcs
  rw [zl_len, List.length_range] at this
  exact this

theorem grown_grow (w : World) (os : Array Obj) (r : Option Nat) : w.grownBy (Sort.grow w os) r := ⟨rfl, rfl, rfl, by simp, fun k hk _ => Sort.heap_grow_old _ _ hk⟩
theorem own_none {w w' : World} {base n sz : Nat} {e : TypeId} {v : Value} {xs : List Value} (h : w.ownsRow base e sz v n xs) (hg : ∀ r, w.grownBy w' r) : w'.ownsRow base e sz v n xs :=
  World.ownsRow.kept h (hg none) (by cases (Value.ownBlock _) <;> simp)
set_option maxHeartbeats 2000000 in
/-- The sort of up to 40 places. -/
theorem c_sortAll {n : Nat} (h40 : n ≤ 40) (L O c c' base : Nat) (p Al : Option Addr) (l : List TResult) (w W : World)
    (ha : Sl resultC w w.heap.size 3 Al n l) (hB : Below w.heap.size w W)
    (hL : W.heap[L]? = some (.cells #[.slice Al n c] 25 (0, 0))) (hO : W.heap[O]? = some (.cells #[.slice p n c'] 33 (0, 0)))
    (hown : W.ownsRow base 2 1 (.slice p n c') n ((zl (List.range n)).map (Value.int .i64))) (hbase : w.heap.size ≤ base) :
    Calls Tryd.prog 34 #[.iface 33 (.slice p n c'), .func (.func 35) #[] #[.pointer (some ⟨L, 0, none⟩), .pointer (some ⟨O, 0, none⟩)]] W fun e w' =>
      e = .returned (.tuple #[]) ∧ w'.ownsRow base 2 1 (.slice p n c') n ((zl (rkL (btr l) n)).map (Value.int .i64)) ∧ W.grownBy w' (Value.ownBlock (.slice p n c')) := by
  by_cases h2 : 2 ≤ n
  · obtain ⟨g, cap, hv, _⟩ := hown.form (by omega)
    simp only [Value.slice.injEq, true_and] at hv
    obtain ⟨rfl, rfl⟩ := hv
    exact c_sortOrder h2 h40 L O g c c' base Al l w W ha hB hL hO hown hbase
  · have key : ∀ f, Tryd.prog.funcs.findIdx? (·.name == "internal/reflectlite" ++ ".Swapper$" ++ toString (Lib.swapperK n slE 6)) = some f → _ := fun f hf =>
      Any.sort_SliceStable_tiny (P := Tryd.prog) slLay 33 2 slT slE (by kernel_rfl) (by kernel_rfl) (by kernel_rfl) (by kernel_rfl) 6 (fun _ => by kernel_rfl) p n c' (by omega) f hf (.func 35) #[] #[.pointer (some ⟨L, 0, none⟩), .pointer (some ⟨O, 0, none⟩)] W
    have hx : zl (rkL (btr l) n) = zl (List.range n) := by
      rcases Nat.le_one_iff_eq_zero_or_eq_one.1 (show n ≤ 1 by omega) with rfl | rfl <;> rfl
    rw [hx]
    have fin : Calls Tryd.prog 34 #[.iface 33 (.slice p n c'), .func (.func 35) #[] #[.pointer (some ⟨L, 0, none⟩), .pointer (some ⟨O, 0, none⟩)]] W fun e w' => e = .returned (.tuple #[]) ∧ ∃ os, w' = Sort.grow W os := by
      rcases Nat.le_one_iff_eq_zero_or_eq_one.1 (show n ≤ 1 by omega) with rfl | rfl
      · exact key 51 (by rw [show Lib.swapperK 0 slE 6 = 1 from rfl]; kernel_rfl)
      · exact key 52 (by rw [show Lib.swapperK 1 slE 6 = 2 from rfl]; kernel_rfl)
    refine fin.mono ?_
    rintro e w' ⟨rfl, os, rfl⟩
    exact ⟨rfl, own_none hown (fun r => grown_grow W os r), grown_grow W os _⟩

set_option maxHeartbeats 4000000 in
theorem c_ranking (A : Option Addr) (n c : Nat) (l : List TResult) (w : World) (ha : Sl resultC w w.heap.size 3 A n l) (hn : n ≤ 40) :
    Calls Tryd.prog 25 #[.slice A n c] w (ZsPost (zl (rkL (btr l) n)) w) := by
  have HA := Lib.hid ha
  clear ha
  go_enter Tryd.func25, Tryd.ntmps25
  go_wp2_with fail
  go_loopw [8] (fun i wr => ∃ k : Nat, ∃ v : Value, k ≤ n ∧ i = .int .i64 k ∧ Below w.heap.size w wr ∧ Hid (wr.heap[w.heap.size]? = some (.cells #[.slice A n c] 25 (0, 0))) ∧ Hid (wr.heap[w.heap.size + 1 + 1]? = some (.cells #[v] 33 (0, 0))) ∧ wr.ownsRow (w.heap.size + 1) 2 1 v k ((zl (List.range k)).map (Value.int .i64))) (fun i _ => n - (intOf i).toNat)
  case atStart => exact ⟨0, _, Nat.zero_le _, rfl, by (repeat' (first | (with_reducible exact Below.refl _ _) | (with_reducible assumption) | (with_reducible refine below_drewN ?_ _) | (with_reducible refine Below.drew ?_) | (with_reducible refine Below.alloc ?_ ?_ _) | (with_reducible refine Below.setCell ?_ ?_ _) | go_size)), by show _ = _; rw [Below.heap_alloc _ _ _ (by simp; omega), Below.heap_alloc _ _ _ (by simp), heap_alloc_new], by have := heap_alloc_new ((w.alloc (.cells #[.slice A n c] 25)).alloc (.cells #[] 2)) (.cells #[.slice (some ⟨w.heap.size + 1, 0, none⟩) 0 0] 33); rw [World.size_alloc, World.size_alloc] at this; exact this, by have h := (World.ownsRow_made (base := w.heap.size + 1) (e := 2) (size := 1) (w.alloc (.cells #[.slice A n c] 25)) #[] 0 (by simp) (by simp [maxLen]) rfl).alloc (.cells #[.slice (some ⟨w.heap.size + 1, 0, none⟩) 0 0] 33); rw [World.size_alloc] at h; exact h⟩
  case round =>
    obtain ⟨k, v, hk, rfl, hB, hL, hO, hown⟩ := hrel
    have hz := hB.size
    have hzO := lt_of_block hO.out
    obtain ⟨A', c', rfl⟩ := own_slice hown
    have c0 := cell_of_one hO.out
    have f0 := free_of_one hO.out
    have hne := own_ne_cells hown hO.out (by decide)
    have hneL := own_ne_cells hown hL.out (by decide)
    by_cases hlt : k < n
    · have HO := Lib.hid hown
      clear hown
      go_wp2_with (at_builtin; refine app1 rfl (.tmp 11) (.tmp 13) _ rfl (w.heap.size + 1) 2 _ 8 Tryd.underlying33 info_int64 rfl _ _ rfl _ _ _ rfl HO.out rfl (by omega) (by omega) (by omega) ?_; intro v' w2 hown2 hb2 hg2; obtain ⟨A2, c2, rfl⟩ := own_slice hown2; have hO2 := cells_grown hO.out hg2 hne; have hL2 := Lib.hid (cells_grown hL.out hg2 hneL); have k0 := cell_of_one hO2; have k1 := free_of_one hO2; have hz2 := hg2.size; have ne2 := own_ne_cells hown2 hO2 (by decide); have HO2 := Lib.hid hO2; have HW2 := Lib.hid hown2; have HN2 := Lib.hid ne2; clear hO2 hown2 ne2)
      go_roundw
      case rel => exact ⟨k + 1, _, by omega, by go_num, (hB.trans (hb2.mono (by omega))).setCell (by dsimp only; omega) _, by show _ = _; rw [Below.heap_setCell _ _ _ _ (by dsimp only; omega)]; exact hL2.out, one_setCell HO2.out, by rw [zl_range_succ, List.map_append]; exact ownsRow_setCell_other HW2.out HN2.out _⟩
      case measure => simp [intOf]; omega
    · obtain rfl : k = n := by omega
      have S := Lib.hid (c_sortAll hn w.heap.size (w.heap.size + 1 + 1) c c' (w.heap.size + 1) A' A l w _ HA.out hB hL.out hO.out hown (by omega))
      have HO := Lib.hid hown
      clear hown
      go_wp2_with (go_at_call 34; refine S.out.mono ?_; rintro e w2 ⟨rfl, hown2, hg2⟩; have hO2 := cells_grown hO.out hg2 hne; have k0 := cell_of_one hO2; have hz2 := hg2.size; have HW2 := Lib.hid hown2; have HG2 := Lib.hid hg2; clear hown2 hg2 hO2)
      go_ret
      exact ZsPost.mk_ (by rw [zl_len, (rkL_ok (btr_wk l) k).len]) (own_base HW2.out (by omega)) (hB.grown HG2.out hz fun q hq => by have := (HO.out.lt q hq).1; omega)
end Go.Proofs.YtbaomhneboojpaaDoor
