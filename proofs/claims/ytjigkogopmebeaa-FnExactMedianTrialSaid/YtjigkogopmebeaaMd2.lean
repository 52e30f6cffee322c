/- Contract: impl.MedianTrial. -/
import Derived.Test.YtjigkogopmebeaaMd1
import Derived.Test.YtjigkogopmebeaaRkG
import Derived.Test.YtjigkogopmebeaaZs
import Derived.Test.YtjigkogopmebeaaAp
import Derived.Test.YtjigkogopmebeaaTi
namespace Go.Proofs.Ytjigkogopmebeaa
open Go.RowKit Go.BigFrame Go.Shelf
attribute [local go_sem] sub_cell sub_frozen drewN_setCell ah_cell

set_option maxHeartbeats 2000000 in
/-- The closure: places i and k of 'order' (block O's slice), compared by the list (block L's) and the penalty (block P's). -/
theorem c_mdLess (L O PE blk b o n m c c' : Nat) (i k p q : Nat) (s e t s' e' t' pe : Int) (r : Bool) (h : slowB pe (s, e, t) (s', e', t') = r) (w : World) (hv : okB s e t) (hv' : okB s' e' t') (hpe : 0 ≤ pe ∧ pe ≤ 50) (hi : i < m) (hk : k < m) (hp : p < n) (hq : q < n) (_hn : n ≤ 1048576) (_hm : m ≤ 1048576)
    (hL : L < w.heap.size) (hO : O < w.heap.size) (hP : PE < w.heap.size) (hb : b < w.heap.size) (hk2 : blk < w.heap.size)
    (d0 : w.cell? ⟨L, 0, none⟩ = some (.slice (some ⟨b, o, none⟩) n c)) (d1 : w.cell? ⟨O, 0, none⟩ = some (.slice (some ⟨blk, 0, none⟩) m c')) (d2 : w.cell? ⟨PE, 0, none⟩ = some (.int .i64 pe))
    (a0 : w.cell? ⟨blk, i, none⟩ = some (.int .i64 p)) (a1 : w.cell? ⟨blk, k, none⟩ = some (.int .i64 q))
    (c0 : w.cell? ⟨b, o + p * 3, none⟩ = some (.int .i64 s)) (c1 : w.cell? ⟨b, o + p * 3 + 1, none⟩ = some (.int .i64 e)) (c2 : w.cell? ⟨b, o + p * 3 + 2, none⟩ = some (.int .i64 t))
    (f0 : w.cell? ⟨b, o + q * 3, none⟩ = some (.int .i64 s')) (f1 : w.cell? ⟨b, o + q * 3 + 1, none⟩ = some (.int .i64 e')) (f2 : w.cell? ⟨b, o + q * 3 + 2, none⟩ = some (.int .i64 t')) :
    Calls Try.prog 15 #[.int .i64 i, .int .i64 k, .pointer (some ⟨L, 0, none⟩), .pointer (some ⟨O, 0, none⟩), .pointer (some ⟨PE, 0, none⟩)] w fun z w' => z = .returned (.bool r) ∧ ∃ q os, w' = Sort.grow (w.drewN q) os := by
  have H := Lib.hid h
  have V1 := Lib.hid hv
  have V2 := Lib.hid hv'
  have V3 := Lib.hid hpe
  clear h hv hv' hpe
  have i1 : (i : Int) < m := by omega
  have i2 : (k : Int) < m := by omega
  have i3 : (p : Int) < n := by omega
  have i4 : (q : Int) < n := by omega
  have a0' : w.cell? ⟨blk, 0 + i, none⟩ = some (.int .i64 p) := by rw [Nat.zero_add]; exact a0
  have a1' : w.cell? ⟨blk, 0 + k, none⟩ = some (.int .i64 q) := by rw [Nat.zero_add]; exact a1
  go_enter Try.func15, Try.ntmps15
  go_wp2_with fail
  refine wp_region_ahead (by kernel_rfl) (by kernel_rfl) ?_
  repeat (go_big_quiet_step ((go_at_call 16; exact qAh (c_slowerG s e t s' e' t' pe _ H.out _ V1.out V2.out V3.out))))
  refine wpQuiet_nil ?_
  intro _ hw'
  obtain ⟨⟨w9, hb9⟩, hw''⟩ := hw'
  subst hw''
  have HB := Lib.hid hb9
  clear hb9
  go_wp2_with fail
  go_ret
  exact ⟨rfl, HB.out⟩

theorem t_res_int : (26 : TypeId) ≠ 2 := by decide
theorem t_int_slint : (2 : TypeId) ≠ 31 := by decide
theorem t_ints_int : (31 : TypeId) ≠ 2 := by decide
theorem ne_blk {w : World} {a b : Nat} {c d : Array Value} {s t : TypeId} {f g : Nat × Nat} (h : w.heap[a]? = some (.cells c s f)) (h' : w.heap[b]? = some (.cells d t g)) (hne : s ≠ t) : a ≠ b := by
  rintro rfl
  rw [h] at h'
  simp only [Option.some.injEq, Obj.cells.injEq] at h'
  exact hne h'.2.1

set_option maxHeartbeats 2000000 in
/-- The sort of 2 to 40 places. -/
theorem c_sortOrder {n : Nat} (h2 : 2 ≤ n) (h40 : n ≤ 40) (L O PE blk c c' base : Nat) (Al : Option Addr) (l : List Tri) (pe : Int) (w W : World) (hpe : 0 ≤ pe ∧ pe ≤ 50) (hv : ∀ (k : Nat) (s e t : Int), l[k]? = some (s, e, t) → okB s e t)
    (ha : Sl trc w w.heap.size 3 Al n l) (hB : Below w.heap.size w W)
    (hL : W.heap[L]? = some (.cells #[.slice Al n c] 26 (0, 0))) (hP : W.heap[PE]? = some (.cells #[.int .i64 pe] 2 (0, 0))) (hPb : PE < base) (hO : W.heap[O]? = some (.cells #[.slice (some ⟨blk, 0, none⟩) n c'] 31 (0, 0)))
    (hown : W.ownsRow base 2 1 (.slice (some ⟨blk, 0, none⟩) n c') n ((zl (List.range n)).map (Value.int .i64))) (hbase : w.heap.size ≤ base) :
    Calls Try.prog 14 #[.iface 31 (.slice (some ⟨blk, 0, none⟩) n c'), .func (.func 15) #[] #[.pointer (some ⟨L, 0, none⟩), .pointer (some ⟨O, 0, none⟩), .pointer (some ⟨PE, 0, none⟩)]] W fun e w' =>
      e = .returned (.tuple #[]) ∧ w'.ownsRow base 2 1 (.slice (some ⟨blk, 0, none⟩) n c') n ((zl (rkL (slw l pe) n)).map (Value.int .i64)) ∧ W.grownBy w' (some blk) := by
  haveI : Inhabited (Fin n) := ⟨⟨0, by omega⟩⟩
  rcases hown.2 with ⟨h0, _⟩ | ⟨g, cap, cur, h0, hg, hr, hnc, hcm, hcs, htk⟩
  · simp at h0
  simp only [Value.slice.injEq, Option.some.injEq, Addr.mk.injEq, and_true, true_and] at h0
  obtain ⟨rfl, rfl⟩ := h0
  have hdn : (Array.ofFn fun i : Fin n => i).size = n := by simp
  have hblk : blk < W.heap.size := (Array.getElem?_eq_some_iff.1 hr).1
  have hLlt : L < W.heap.size := (Array.getElem?_eq_some_iff.1 hL).1
  have hOlt : O < W.heap.size := (Array.getElem?_eq_some_iff.1 hO).1
  have hPlt : PE < W.heap.size := (Array.getElem?_eq_some_iff.1 hP).1
  have hPne : PE ≠ blk := by omega
  have hLne := ne_blk hL hr t_res_int
  have hOne := ne_blk hO hr t_ints_int
  have hH : Sort.Holds encF W blk 0 (Array.ofFn fun i : Fin n => i) := by
    have h1 := Go.holds_of_blockI (ss := zl (List.range n)) hr (by rw [zl_len, List.length_range]; simpa using htk)
    intro j hj
    rw [hdn] at hj
    have h3 := h1 j (by simp [zl]; omega)
    rw [getElem!_pos _ j (by simp [zl]; omega)] at h3
    rw [getElem!_pos _ j (by simpa using hj)]
    simpa [zl, encF] using h3
  have hless : LessG Try.prog 15 #[.pointer (some ⟨L, 0, none⟩), .pointer (some ⟨O, 0, none⟩), .pointer (some ⟨PE, 0, none⟩)] encF (fun x y : Fin n => slw l pe x.val y.val) blk 0 (Array.ofFn fun i : Fin n => i).size W := by
    intro dk W' hS hs i j hi hj
    rw [hdn] at hs hi hj
    have hgr := sw_grown hS
    have hB' := hB.grown hgr hB.size (fun k hk => by injection hk with hk; omega)
    obtain ⟨b, o, s, e, t, s', e', t', hA, hb1, hb2, hx, hx', c0, c1, c2, f0, f1, f2⟩ := tr_at2 ha hB' (dk[i]!).isLt (dk[j]!).isLt
    subst hA
    have hh := hS.holds hblk hH (by rw [hs, hdn])
    have a0 := (hh i (by omega)).1
    have a1 := (hh j (by omega)).1
    rw [Nat.zero_add] at a0 a1
    have hz := hgr.size
    exact c_mdLess L O PE blk b o n n c c' i j _ _ s e t s' e' t' pe _ (slw_of hx hx').symm W' (hv _ _ _ _ hx) (hv _ _ _ _ hx') hpe hi hj (dk[i]!).isLt (dk[j]!).isLt (by omega) (by omega) (by omega) (by omega) (by omega) hb1 (by omega)
      ((swCell hS hLlt hLne).trans (cell_of_one hL)) ((swCell hS hOlt hOne).trans (cell_of_one hO)) ((swCell hS hPlt hPne).trans (cell_of_one hP)) a0 a1 c0 c1 c2 f0 f1 f2
  have key := sliceStable_40 (P := Try.prog) slLay 31 2 slT slE (by kernel_rfl) (by kernel_rfl) (by kernel_rfl) (by kernel_rfl) 6 (fun _ => by kernel_rfl) (by kernel_rfl) (fun _ => by kernel_rfl) encF (fun _ => rfl)
    (fun x y : Fin n => slw l pe x.val y.val) (fun x y : Fin n => tieB (slw l pe) x.val y.val) (tot_tie (slw_wk pe hv)) 15 _ (enters_of Try.func15 (by kernel_rfl) rfl) blk 0 c' (Array.ofFn fun i : Fin n => i) (by omega) (by omega)
    36 (by rw [hdn, slK _ h2]; kernel_rfl) true (fun args W => run_callFunc_extern Try.func36 (by kernel_rfl) (by kernel_rfl) (by kernel_rfl) (e := Extern.ReflectliteSwapper.swap true) (by kernel_rfl) args W)
    W hless hH hblk (List.pairwise_iff_getElem.2 fun i j hi hj hij => by simp; omega) (by rw [hdn]; exact later_tie)
  rw [hdn] at key
  refine key.mono ?_
  rintro e w' ⟨rfl, d', hS, hP, hR⟩
  refine ⟨rfl, ?_, sw_grown hS⟩
  have hrk := rk_of (slw_wk pe hv) hP hR
  obtain ⟨m, os, rfl⟩ := sw_fin hS
  have e1 : (d'.map fun x : Fin n => (x.val : Int)) = (zl (rkL (slw l pe) n)).toArray := by
    rw [← hrk]
    apply Array.ext'
    simp [zl]
  rw [e1]
  have hl := (rkL_ok (slw_wk pe hv) n).len
  have := Go.ownsRow_sortedI (w := W) (n := m) (os := os) (ss := zl (List.range n)) (ts := zl (rkL (slw l pe) n)) (by rw [zl_len, zl_len, hl]; simp) hg hr (by rw [zl_len]; simpa using hnc) hcm hcs
  rw [zl_len, List.length_range] at this
  exact this

theorem grown_grow (w : World) (os : Array Obj) (r : Option Nat) : w.grownBy (Sort.grow w os) r := ⟨rfl, rfl, rfl, by simp, fun k hk _ => Sort.heap_grow_old _ _ hk⟩
theorem own_none {w w' : World} {base n sz : Nat} {e : TypeId} {v : Value} {xs : List Value} (h : w.ownsRow base e sz v n xs) (hg : ∀ r, w.grownBy w' r) : w'.ownsRow base e sz v n xs :=
  World.ownsRow.kept h (hg none) (by cases (Value.ownBlock _) <;> simp)
set_option maxHeartbeats 2000000 in
/-- The sort of up to 40 places. -/
theorem c_sortAll {n : Nat} (h40 : n ≤ 40) (L O PE c c' base : Nat) (p Al : Option Addr) (l : List Tri) (pe : Int) (w W : World) (hpe : 0 ≤ pe ∧ pe ≤ 50) (hv : ∀ (k : Nat) (s e t : Int), l[k]? = some (s, e, t) → okB s e t)
    (ha : Sl trc w w.heap.size 3 Al n l) (hB : Below w.heap.size w W)
    (hL : W.heap[L]? = some (.cells #[.slice Al n c] 26 (0, 0))) (hP : W.heap[PE]? = some (.cells #[.int .i64 pe] 2 (0, 0))) (hPb : PE < base) (hO : W.heap[O]? = some (.cells #[.slice p n c'] 31 (0, 0)))
    (hown : W.ownsRow base 2 1 (.slice p n c') n ((zl (List.range n)).map (Value.int .i64))) (hbase : w.heap.size ≤ base) :
    Calls Try.prog 14 #[.iface 31 (.slice p n c'), .func (.func 15) #[] #[.pointer (some ⟨L, 0, none⟩), .pointer (some ⟨O, 0, none⟩), .pointer (some ⟨PE, 0, none⟩)]] W fun e w' =>
      e = .returned (.tuple #[]) ∧ w'.ownsRow base 2 1 (.slice p n c') n ((zl (rkL (slw l pe) n)).map (Value.int .i64)) ∧ W.grownBy w' (Value.ownBlock (.slice p n c')) := by
  by_cases h2 : 2 ≤ n
  · obtain ⟨g, cap, hv, _⟩ := hown.form (by omega)
    simp only [Value.slice.injEq, true_and] at hv
    obtain ⟨rfl, rfl⟩ := hv
    exact c_sortOrder h2 h40 L O PE g c c' base Al l pe w W hpe hv ha hB hL hP hPb hO hown hbase
  · have key : ∀ f, Try.prog.funcs.findIdx? (·.name == "internal/reflectlite" ++ ".Swapper$" ++ toString (Lib.swapperK n slE 6)) = some f → _ := fun f hf =>
      Any.sort_SliceStable_tiny (P := Try.prog) slLay 31 2 slT slE (by kernel_rfl) (by kernel_rfl) (by kernel_rfl) (by kernel_rfl) 6 (fun _ => by kernel_rfl) p n c' (by omega) f hf (.func 15) #[] #[.pointer (some ⟨L, 0, none⟩), .pointer (some ⟨O, 0, none⟩), .pointer (some ⟨PE, 0, none⟩)] W
    have hx : zl (rkL (slw l pe) n) = zl (List.range n) := by
      rcases Nat.le_one_iff_eq_zero_or_eq_one.1 (show n ≤ 1 by omega) with rfl | rfl <;> rfl
    rw [hx]
    have fin : Calls Try.prog 14 #[.iface 31 (.slice p n c'), .func (.func 15) #[] #[.pointer (some ⟨L, 0, none⟩), .pointer (some ⟨O, 0, none⟩), .pointer (some ⟨PE, 0, none⟩)]] W fun e w' => e = .returned (.tuple #[]) ∧ ∃ os, w' = Sort.grow W os := by
      rcases Nat.le_one_iff_eq_zero_or_eq_one.1 (show n ≤ 1 by omega) with rfl | rfl
      · exact key 32 (by rw [show Lib.swapperK 0 slE 6 = 1 from rfl]; kernel_rfl)
      · exact key 33 (by rw [show Lib.swapperK 1 slE 6 = 2 from rfl]; kernel_rfl)
    refine fin.mono ?_
    rintro e w' ⟨rfl, os, rfl⟩
    exact ⟨rfl, own_none hown (fun r => grown_grow W os r), grown_grow W os _⟩


theorem heap2_0 (w : World) (o o' : Obj) : ((w.alloc o).alloc o').heap[w.heap.size]? = some o := by rw [Below.heap_alloc _ _ _ (by simp), heap_alloc_new]
theorem heap2_1 (w : World) (o o' : Obj) : ((w.alloc o).alloc o').heap[w.heap.size + 1]? = some o' := by
  have := heap_alloc_new (w.alloc o) o'
  rwa [World.size_alloc] at this
/-- The test in the middle. -/
def medN (l : List Tri) (pe : Int) : Nat := (rkL (slw l pe) l.length).getD ((l.length - 1) / 2) 0
def medV (l : List Tri) (pe : Int) : Value :=
  if codeS l pe = 0 then .tuple #[.int .i64 (medN l pe : Nat), .int .i64 0] else .tuple #[.int .i64 0, .int .i64 (codeS l pe)]
theorem medV_form (l : List Tri) (pe : Int) : ∃ x y, medV l pe = .tuple #[.int .i64 x, .int .i64 y] := by
  unfold medV
  split <;> exact ⟨_, _, rfl⟩
theorem medV_err {l : List Tri} {pe c : Int} (h : codeS l pe = c) (hc : c ≠ 0) : Ending.returned (.tuple #[.int .i64 0, .int .i64 c]) = .returned (medV l pe) := by
  rw [medV, h, if_neg hc]
theorem medV_ok {l : List Tri} {pe : Int} {n q : Nat} (h : codeS l pe = 0) (hl : l.length = n) (hq : (rkL (slw l pe) n)[(n - 1) / 2]? = some q) : Ending.returned (.tuple #[.int .i64 (q : Int), .int .i64 0]) = .returned (medV l pe) := by
  rw [medV, if_pos h, medN, hl, List.getD_eq_getElem?_getD, hq]; rfl
theorem half_quo {n m : Nat} (h : 1 ≤ n) (hm : (n - 1) / 2 = m) : ((n : Int) - 1).tdiv 2 = (m : Int) := by
  rw [Int.tdiv_eq_ediv_of_nonneg (by omega)]; omega
theorem rk_at {w : World} {base n c k : Nat} {B : Option Addr} {e : TypeId} {lt : Nat → Nat → Bool} (hw : Wk lt) (h : w.ownsRow base e 1 (.slice B n c) n ((zl (rkL lt n)).map (Value.int .i64))) (hk : k < n) :
    ∃ g p, B = some ⟨g, 0, none⟩ ∧ base ≤ g ∧ g < w.heap.size ∧ (rkL lt n)[k]? = some p ∧ p < n ∧ w.cell? ⟨g, k, none⟩ = some (.int .i64 p) := by
  have hl := (rkL_ok hw n).len
  obtain ⟨g, cap, hv, h1, h2⟩ := h.form (by omega)
  simp only [Value.slice.injEq, true_and] at hv
  obtain ⟨rfl, rfl⟩ := hv
  have hp : (rkL lt n)[k]? = some (rkL lt n)[k] := List.getElem?_eq_getElem (by omega)
  have hc := h.cells (g := g) rfl k (.int .i64 (rkL lt n)[k]) (by simp [zl, hp])
  rw [Addr.add_lit, Nat.zero_add] at hc
  exact ⟨g, _, rfl, h1, h2, hp, (rkL_ok hw n).lt_ (List.mem_of_getElem? hp), hc⟩

set_option maxRecDepth 20000 in
set_option maxHeartbeats 4000000 in
theorem c_iMedianTrial (A : Option Addr) (n c : Nat) (l : List Tri) (pe : Int) (w : World) (ha : Sl trc w w.heap.size 3 A n l) (hn : n ≤ 1048576) :
    Calls Try.prog 7 #[.slice A n c, .int .i64 pe] w fun e w' => e = .returned (medV l pe) ∧ Below w.heap.size w w' := by
  have hl := ha.1
  have HL := Lib.hid hl
  have HA := Lib.hid ha
  have HA2 := Lib.hid (fun o o' => ha.later (Below.alloc (Below.alloc (Below.refl _ w) (Nat.le_refl _) o) (by simp) o'))
  clear ha
  have err : ∀ k : Int, k ≠ 0 → codeL l pe = k → (k = 1 ∨ k = 2) → Calls Try.prog 7 #[.slice A n c, .int .i64 pe] w fun e w' => e = .returned (medV l pe) ∧ Below w.heap.size w w' := by
    intro k hk h hor
    have HK := Lib.hid h
    have HC : Hid (codeS l pe = k) := by
      show codeS l pe = k
      rw [codeS, if_neg (by omega), h]
    clear hl h
    rcases hor with rfl | rfl <;>
    · go_enter Try.func7, Try.ntmps7
      go_wp2_with (go_at_call 13; refine (c_trialsCode _ _ _ l _ _ HK.out _ (HA2.out _ _) hn).mono ?_; rintro r_ w1 ⟨rfl, hb1⟩)
      go_returns
      exact ⟨medV_err HC.out (by decide), later hb1 (by (repeat' (first | (with_reducible exact Below.refl _ _) | (with_reducible assumption) | (with_reducible refine below_drewN ?_ _) | (with_reducible refine Below.drew ?_) | (with_reducible refine Below.alloc ?_ ?_ _) | (with_reducible refine Below.setCell ?_ ?_ _) | go_size)))⟩
  rcases codeL_cases l pe with h | h | h
  · have HK := Lib.hid h
    by_cases hn0 : n = 0
    · have HC : Hid (codeS l pe = 3) := by
        show codeS l pe = 3
        rw [codeS, if_pos ⟨h, by omega⟩]
      have hq : ((n : Int) == 0) = true := by simp [hn0]
      clear hl h hn0 err
      go_enter Try.func7, Try.ntmps7
      go_wp2_with (go_at_call 13; refine (c_trialsCode _ _ _ l _ _ HK.out _ (HA2.out _ _) hn).mono ?_; rintro r_ w1 ⟨rfl, hb1⟩; have L1 := Lib.hid ((hb1.block w.heap.size (by simp; omega)).trans (heap2_0 _ _ _)); have k0 := cell_of_one L1.out; have hB1 := later hb1 (w := w) (by (repeat' (first | (with_reducible exact Below.refl _ _) | (with_reducible assumption) | (with_reducible refine below_drewN ?_ _) | (with_reducible refine Below.drew ?_) | (with_reducible refine Below.alloc ?_ ?_ _) | (with_reducible refine Below.setCell ?_ ?_ _) | go_size))); have hz1 := hb1.size; simp only [World.size_alloc] at hz1; clear hb1)
      go_returns
      exact ⟨medV_err HC.out (by decide), hB1⟩
    · have HC : Hid (codeS l pe = 0) := by
        show codeS l pe = 0
        rw [codeS, if_neg (by omega), h]
      have hq : ((n : Int) == 0) = false := by simp [hn0]
      obtain ⟨hok, hp⟩ := codeL_zero h
      obtain ⟨h40', hval⟩ := okT_at hok
      have h40 : n ≤ 40 := by omega
      have HV := Lib.hid @hval
      have h1n : 1 ≤ n := by omega
      obtain ⟨m, hm⟩ : ∃ m, (n - 1) / 2 = m := ⟨_, rfl⟩
      have hquo := half_quo h1n hm
      have hmn : m < n := by omega
      have HP := Lib.hid hp
      have HM := Lib.hid hm
      clear h hok hval hl err hn0 h40' hp hm
      go_enter Try.func7, Try.ntmps7
      go_wp2_with (go_at_call 13; refine (c_trialsCode _ _ _ l _ _ HK.out _ (HA2.out _ _) hn).mono ?_; rintro r_ w1 ⟨rfl, hb1⟩; have L1 := Lib.hid ((hb1.block w.heap.size (by simp; omega)).trans (heap2_0 _ _ _)); have P1 := Lib.hid ((hb1.block (w.heap.size + 1) (by simp)).trans (heap2_1 _ _ _)); have k0 := cell_of_one L1.out; have hB1 := later hb1 (w := w) (by (repeat' (first | (with_reducible exact Below.refl _ _) | (with_reducible assumption) | (with_reducible refine below_drewN ?_ _) | (with_reducible refine Below.drew ?_) | (with_reducible refine Below.alloc ?_ ?_ _) | (with_reducible refine Below.setCell ?_ ?_ _) | go_size))); have hz1 := hb1.size; simp only [World.size_alloc] at hz1; have y1 : w.heap.size < w1.heap.size := (by omega); have y2 : w.heap.size < w1.heap.size + 1 := (by omega); have y3 : w.heap.size < w1.heap.size + 1 + 1 := (by omega); clear hb1)
      go_loopw [21] (fun i wr => ∃ k : Nat, ∃ v : Value, k ≤ n ∧ i = .int .i64 k ∧ Below w1.heap.size w1 wr ∧ Hid (wr.heap[w1.heap.size + 1]? = some (.cells #[v] 31 (0, 0))) ∧ wr.ownsRow w1.heap.size 2 1 v k ((zl (List.range k)).map (Value.int .i64))) (fun i _ => n - (intOf i).toNat)
      case atStart => exact ⟨0, _, Nat.zero_le _, rfl, by (repeat' (first | (with_reducible exact Below.refl _ _) | (with_reducible assumption) | (with_reducible refine below_drewN ?_ _) | (with_reducible refine Below.drew ?_) | (with_reducible refine Below.alloc ?_ ?_ _) | (with_reducible refine Below.setCell ?_ ?_ _) | go_size)), heap2_1 _ _ _, (World.ownsRow_made (base := w1.heap.size) (e := 2) (size := 1) w1 #[] 0 (by simp) (by simp [maxLen]) rfl).alloc (.cells #[.slice (some ⟨w1.heap.size, 0, none⟩) 0 0] 31)⟩
      case round =>
        obtain ⟨k, v, hk, rfl, hB, hO, hown⟩ := hrel
        have hz := hB.size
        have hzO := lt_of_block hO.out
        obtain ⟨A', c', rfl⟩ := own_slice hown
        have c0 := cell_of_one hO.out
        have f0 := free_of_one hO.out
        have hne := own_ne_cells hown hO.out (by decide)
        by_cases hlt : k < n
        · have HO := Lib.hid hown
          clear hown
          go_wp2_with (at_builtin; refine app1 rfl (.tmp 24) (.tmp 26) _ rfl w1.heap.size 2 _ 8 Try.underlying31 info_int64 rfl _ _ rfl _ _ _ rfl HO.out rfl (by omega) (by omega) (by omega) ?_; intro v' w2 hown2 hb2 hg2; obtain ⟨A2, c2, rfl⟩ := own_slice hown2; have hO2 := cells_grown hO.out hg2 hne; have k0 := cell_of_one hO2; have k1 := free_of_one hO2; have hz2 := hg2.size; have ne2 := own_ne_cells hown2 hO2 (by decide); have HO2 := Lib.hid hO2; have HW2 := Lib.hid hown2; have HN2 := Lib.hid ne2; clear hO2 hown2 ne2)
          go_roundw
          case rel => exact ⟨k + 1, _, by omega, by go_num, (hB.trans (hb2.mono (by omega))).setCell (by dsimp only; omega) _, one_setCell HO2.out, by rw [zl_range_succ, List.map_append]; exact ownsRow_setCell_other HW2.out HN2.out _⟩
          case measure => simp [intOf]; omega
        · obtain rfl : k = n := by omega
          have hBw := hB1.trans (hB.mono (by omega))
          have L2 := Lib.hid ((hB.block w.heap.size (by omega)).trans L1.out)
          have P2 := Lib.hid ((hB.block (w.heap.size + 1) (by omega)).trans P1.out)
          have S := Lib.hid (c_sortAll h40 w.heap.size (w1.heap.size + 1) (w.heap.size + 1) c c' w1.heap.size A' A l pe w _ HP.out HV.out HA.out hBw L2.out P2.out (by omega) hO.out hown (by omega))
          have HO := Lib.hid hown
          clear hown
          go_wp2_with (go_at_call 14; refine S.out.mono ?_; rintro e w2 ⟨rfl, hown2, hg2⟩; have hO2 := cells_grown hO.out hg2 hne; have k0 := cell_of_one hO2; have hz2 := hg2.size; have HG2 := Lib.hid hg2; obtain ⟨g2, p2, rfl, hga, hgb, hpp, hpn, hcc⟩ := rk_at (slw_wk pe HV.out) hown2 hmn; have HPP := Lib.hid hpp; clear hown2 hg2 hO2 hpp)
          go_returns
          exact ⟨medV_ok HC.out HL.out (by rw [HM.out]; exact HPP.out), hBw.grown HG2.out (by omega) fun q hq => by have := (HO.out.lt q hq).1; omega⟩
  · exact err 1 (by decide) h (by simp)
  · exact err 2 (by decide) h (by simp)
end Go.Proofs.Ytjigkogopmebeaa
