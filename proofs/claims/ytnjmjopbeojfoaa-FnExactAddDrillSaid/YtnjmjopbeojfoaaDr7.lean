/- Contracts: AddDrill. -/
import Derived.Test.YtnjmjopbeojfoaaDr2
import Derived.Test.YtnjmjopbeojfoaaAps
import Derived.Test.YtnjmjopbeojfoaaMkDrill
import Derived.Test.YtnjmjopbeojfoaaAq
import Derived.OwnWalk
namespace Go.Proofs.Ytnjmjopbeojfoaa
open Go.RowKit Go.BigFrame
attribute [local go_sem] sub_cell sub_frozen drewN_setCell

/-- A fresh row of drills and a code. -/
def DrillsPost (zs : List TDrill) (code : Int) (w : World) (r : Ending) (w' : World) : Prop :=
  ∃ A c, r = .returned (.tuple #[.slice A zs.length c, .int .i64 code]) ∧ w'.ownsRow w.heap.size 31 3 (.slice A zs.length c) zs.length (flat drillC zs) ∧ Below w.heap.size w w'
theorem DrillsPost.mk_ {zs : List TDrill} {code : Int} {w w' : World} {v : Value} {n : Nat} (hn : zs.length = n) (hown : w'.ownsRow w.heap.size 31 3 v n (flat drillC zs)) (hb : Below w.heap.size w w') : DrillsPost zs code w (.returned (.tuple #[v, .int .i64 code])) w' := by
  subst hn
  obtain ⟨A, c, rfl⟩ := own_slice hown
  exact ⟨A, c, rfl, hown, hb⟩
theorem DrillsPost.err {code : Int} {w w' : World} (hb : Below w.heap.size w w') : DrillsPost [] code w (.returned (.tuple #[.slice none 0 0, .int .i64 code])) w' :=
  ⟨none, 0, rfl, ⟨rfl, .inl ⟨rfl, rfl⟩⟩, hb⟩
def addC (l : List TDrill) (d : TDrill) : Int :=
  if drsB l = true then (if okDr d = true then (if d.1 ∈ l.map (·.1) then 4 else if 10 ≤ l.length then 5 else 0) else 2) else 1
def addL (l : List TDrill) (d : TDrill) : List TDrill :=
  if drsB l = true then (if okDr d = true then (if d.1 ∈ l.map (·.1) then [] else if 10 ≤ l.length then [] else l ++ [d]) else []) else []
theorem drs_len {l : List TDrill} (h : drsB l = true) : l.length ≤ 10 := by
  simp only [drsB, Bool.and_eq_true, decide_eq_true_eq] at h
  exact h.2
theorem addL_len (l : List TDrill) (d : TDrill) : (addL l d).length ≤ 40 := by
  unfold addL
  split
  · rename_i h
    have := drs_len h
    split
    · split
      · simp
      · split
        · simp
        · rw [List.length_append]; simp; omega
    · simp
  · simp
theorem flat_one {l : List TDrill} : ∀ u ∈ flat drillC l, u.oneCell' = true := by
  intro u hu
  obtain ⟨x, _, hx⟩ := List.mem_flatMap.1 hu
  simp only [drillC, List.mem_cons, List.not_mem_nil, or_false] at hx
  rcases hx with rfl | rfl | rfl <;> rfl

theorem box3 {w : World} {b : Nat} {x y z : Value} {e : TypeId} (h : w.heap[b]? = some (.cells #[x, y, z] e (0, 0))) : w.cell? ⟨b, 0, none⟩ = some x ∧ w.cell? ⟨b, 1, none⟩ = some y ∧ w.cell? ⟨b, 2, none⟩ = some z := by
  refine ⟨?_, ?_, ?_⟩ <;> simp [World.cell?, h]
theorem heap_alloc_old {w : World} {b : Nat} {o o' : Obj} (h : w.heap[b]? = some o) : (w.alloc o').heap[b]? = some o := by
  rw [Below.heap_alloc _ _ _ (lt_of_block h)]; exact h
set_option maxHeartbeats 2000000 in
theorem c_sAddDrill (A : Option Addr) (n c : Nat) (l : List TDrill) (nm ls : ByteArray) (mi : Int) (w : World) (ha : Sl drillC w w.heap.size 3 A n l) (hsz : DrSz l) (hn : n ≤ 1048576) (hc : n ≤ c) (hnm : nm.size ≤ maxLen) (hls : ls.size ≤ maxLen) :
    Calls Try.prog 27 #[.slice A n c, .agg #[.string nm, .string ls, .int .i64 mi]] w (DrillsPost (addL l (nm, ls, mi)) (addC l (nm, ls, mi)) w) := by
  have HL := Lib.hid ha.1
  have HA := Lib.hid ha
  have HSZ := Lib.hid hsz
  have HA1 := Lib.hid (fun o => ha.later (Below.alloc (Below.refl _ _) (Nat.le_refl _) o))
  clear ha hsz
  cases h1 : drsB l
  · have e1 : Hid (addL l (nm, ls, mi) = [] ∧ addC l (nm, ls, mi) = 1) := by constructor <;> simp [addL, addC, h1]
    have H1 := Lib.hid h1
    clear h1
    go_enter Try.func27, Try.ntmps27
    go_wp2_with (go_at_call 49; refine (c_l21Ok _ _ _ l _ H1.out _ (HA1.out _) HSZ.out hn hc).mono ?_; rintro r_ w1 ⟨rfl, hb1⟩; have HB1 := Lib.hid (((Below.refl _ w).alloc (Nat.le_refl _) (.cells #[.string nm, .string ls, .int .i64 mi] 31)).trans (hb1.mono (by simp))); have hz1 := HB1.out.size; have HX1 := Lib.hid ((hb1.block w.heap.size (by simp)).trans (heap_alloc_new w (.cells #[.string nm, .string ls, .int .i64 mi] 31))); obtain ⟨x0, x1, x2⟩ := box3 HX1.out; have hl1 := lt_of_block HX1.out; clear hb1)
    go_ret2
    rw [e1.out.1, e1.out.2]
    exact DrillsPost.err HB1.out
  have h10 := drs_len h1
  rw [HL.out] at h10
  have H1 := Lib.hid h1
  cases h2 : okDr (nm, ls, mi)
  · have e1 : Hid (addL l (nm, ls, mi) = [] ∧ addC l (nm, ls, mi) = 2) := by constructor <;> simp [addL, addC, h1, h2]
    have H2 := Lib.hid h2
    clear h1 h2
    go_enter Try.func27, Try.ntmps27
    go_wp2_with (first | (go_at_call 49; refine (c_l21Ok _ _ _ l _ H1.out _ (HA1.out _) HSZ.out hn hc).mono ?_; rintro r_ w1 ⟨rfl, hb1⟩; have HB1 := Lib.hid (((Below.refl _ w).alloc (Nat.le_refl _) (.cells #[.string nm, .string ls, .int .i64 mi] 31)).trans (hb1.mono (by simp))); have hz1 := HB1.out.size; have HX1 := Lib.hid ((hb1.block w.heap.size (by simp)).trans (heap_alloc_new w (.cells #[.string nm, .string ls, .int .i64 mi] 31))); obtain ⟨x0, x1, x2⟩ := box3 HX1.out; have hl1 := lt_of_block HX1.out; clear hb1) | (go_at_call 44; refine (c_l21One _ _ _ _ H2.out _ hnm hls).mono ?_; rintro r_ w2 ⟨rfl, hb2⟩; have HB2 := Lib.hid (HB1.out.trans (hb2.mono hz1)); have hz2 := HB2.out.size; have HX2 := Lib.hid ((hb2.block w.heap.size hl1).trans HX1.out); obtain ⟨y0, y1, y2⟩ := box3 HX2.out; have hl2 := lt_of_block HX2.out; have HA2 := Lib.hid (HA.out.later HB2.out); clear hb2))
    go_ret2
    rw [e1.out.1, e1.out.2]
    exact DrillsPost.err HB2.out
  have H2 := Lib.hid h2
  obtain ⟨v, hv⟩ : ∃ v, findI (l.map (·.1)) nm = v := ⟨_, rfl⟩
  by_cases h3 : nm ∈ l.map (·.1)
  · have e1 : Hid (addL l (nm, ls, mi) = [] ∧ addC l (nm, ls, mi) = 4) := by constructor <;> simp only [addL, addC, h1, h2, h3, if_true]
    have hv0 : 0 ≤ v := hv ▸ findI_yes h3
    have HV := Lib.hid hv
    clear hv h3 h1 h2
    go_enter Try.func27, Try.ntmps27
    go_wp2_with (first | (go_at_call 49; refine (c_l21Ok _ _ _ l _ H1.out _ (HA1.out _) HSZ.out hn hc).mono ?_; rintro r_ w1 ⟨rfl, hb1⟩; have HB1 := Lib.hid (((Below.refl _ w).alloc (Nat.le_refl _) (.cells #[.string nm, .string ls, .int .i64 mi] 31)).trans (hb1.mono (by simp))); have hz1 := HB1.out.size; have HX1 := Lib.hid ((hb1.block w.heap.size (by simp)).trans (heap_alloc_new w (.cells #[.string nm, .string ls, .int .i64 mi] 31))); obtain ⟨x0, x1, x2⟩ := box3 HX1.out; have hl1 := lt_of_block HX1.out; clear hb1) | (go_at_call 44; refine (c_l21One _ _ _ _ H2.out _ hnm hls).mono ?_; rintro r_ w2 ⟨rfl, hb2⟩; have HB2 := Lib.hid (HB1.out.trans (hb2.mono hz1)); have hz2 := HB2.out.size; have HX2 := Lib.hid ((hb2.block w.heap.size hl1).trans HX1.out); obtain ⟨y0, y1, y2⟩ := box3 HX2.out; have hl2 := lt_of_block HX2.out; have HA2 := Lib.hid (HA.out.later HB2.out); clear hb2) | (go_at_call 55; refine (c_l21Find _ _ _ l _ _ HV.out _ HA2.out hn).mono ?_; rintro r_ w3 ⟨rfl, rfl⟩; have HA3 := Lib.hid (fun o => (HA.out.later HB2.out).later (Below.alloc (Below.refl _ _) (Nat.le_refl _) o))))
    go_ret2
    rw [e1.out.1, e1.out.2]
    exact DrillsPost.err HB2.out
  obtain rfl : v = -1 := by rw [← hv]; exact findI_no h3
  have HV := Lib.hid hv
  clear hv
  by_cases h4 : 10 ≤ n
  · have e1 : Hid (addL l (nm, ls, mi) = [] ∧ addC l (nm, ls, mi) = 5) := by constructor <;> simp only [addL, addC, h1, h2, h3, if_true, if_false, HL.out, h4]
    clear h3 h1 h2
    have i1 : (10 : Int) ≤ n := by omega
    go_enter Try.func27, Try.ntmps27
    go_wp2_with (first | (go_at_call 49; refine (c_l21Ok _ _ _ l _ H1.out _ (HA1.out _) HSZ.out hn hc).mono ?_; rintro r_ w1 ⟨rfl, hb1⟩; have HB1 := Lib.hid (((Below.refl _ w).alloc (Nat.le_refl _) (.cells #[.string nm, .string ls, .int .i64 mi] 31)).trans (hb1.mono (by simp))); have hz1 := HB1.out.size; have HX1 := Lib.hid ((hb1.block w.heap.size (by simp)).trans (heap_alloc_new w (.cells #[.string nm, .string ls, .int .i64 mi] 31))); obtain ⟨x0, x1, x2⟩ := box3 HX1.out; have hl1 := lt_of_block HX1.out; clear hb1) | (go_at_call 44; refine (c_l21One _ _ _ _ H2.out _ hnm hls).mono ?_; rintro r_ w2 ⟨rfl, hb2⟩; have HB2 := Lib.hid (HB1.out.trans (hb2.mono hz1)); have hz2 := HB2.out.size; have HX2 := Lib.hid ((hb2.block w.heap.size hl1).trans HX1.out); obtain ⟨y0, y1, y2⟩ := box3 HX2.out; have hl2 := lt_of_block HX2.out; have HA2 := Lib.hid (HA.out.later HB2.out); clear hb2) | (go_at_call 55; refine (c_l21Find _ _ _ l _ _ HV.out _ HA2.out hn).mono ?_; rintro r_ w3 ⟨rfl, rfl⟩; have HA3 := Lib.hid (fun o => (HA.out.later HB2.out).later (Below.alloc (Below.refl _ _) (Nat.le_refl _) o))))
    go_ret2
    rw [e1.out.1, e1.out.2]
    exact DrillsPost.err HB2.out
  have e1 : Hid (addL l (nm, ls, mi) = l ++ [(nm, ls, mi)] ∧ addC l (nm, ls, mi) = 0) := by constructor <;> simp only [addL, addC, h1, h2, h3, if_true, if_false, HL.out, h4]
  clear h3 h1 h2
  have i1 : ¬ (10 : Int) ≤ n := by omega
  go_enter Try.func27, Try.ntmps27
  go_wp2_with (first | (go_at_call 49; refine (c_l21Ok _ _ _ l _ H1.out _ (HA1.out _) HSZ.out hn hc).mono ?_; rintro r_ w1 ⟨rfl, hb1⟩; have HB1 := Lib.hid (((Below.refl _ w).alloc (Nat.le_refl _) (.cells #[.string nm, .string ls, .int .i64 mi] 31)).trans (hb1.mono (by simp))); have hz1 := HB1.out.size; have HX1 := Lib.hid ((hb1.block w.heap.size (by simp)).trans (heap_alloc_new w (.cells #[.string nm, .string ls, .int .i64 mi] 31))); obtain ⟨x0, x1, x2⟩ := box3 HX1.out; have hl1 := lt_of_block HX1.out; clear hb1) | (go_at_call 44; refine (c_l21One _ _ _ _ H2.out _ hnm hls).mono ?_; rintro r_ w2 ⟨rfl, hb2⟩; have HB2 := Lib.hid (HB1.out.trans (hb2.mono hz1)); have hz2 := HB2.out.size; have HX2 := Lib.hid ((hb2.block w.heap.size hl1).trans HX1.out); obtain ⟨y0, y1, y2⟩ := box3 HX2.out; have hl2 := lt_of_block HX2.out; have HA2 := Lib.hid (HA.out.later HB2.out); clear hb2) | (go_at_call 55; refine (c_l21Find _ _ _ l _ _ HV.out _ HA2.out hn).mono ?_; rintro r_ w3 ⟨rfl, rfl⟩; have HA3 := Lib.hid (fun o => (HA.out.later HB2.out).later (Below.alloc (Below.refl _ _) (Nat.le_refl _) o))) | (at_builtin; refine apListS (by rfl) (.tmp 21) (.tmp 22) _ (by rfl) w.heap.size 31 _ 3 40 Try.underlying37 info_Drill (by rfl) (by decide) _ _ 0 [] (by rfl) (World.ownsRow_made w2 #[] 0 hz2 (by simp [maxLen]) rfl) _ A n c (flat drillC l) (by rfl) (HA3.out _).2.2 flat_one (by omega) (by omega) (by simp; omega) ?_; intro v4 w4 hown4 hb4 hg4 _; rw [Nat.zero_add, List.nil_append] at hown4; obtain ⟨A4, c4, rfl⟩ := own_slice hown4; have HO4 := Lib.hid hown4; have HB4 := Lib.hid ((HB2.out.alloc hz2 (.cells #[] 31)).trans hb4); have hz4 := HB4.out.size; have HX4 := Lib.hid ((hg4.block w.heap.size (by simp; omega) (by simp [Value.ownBlock]; omega)).trans (heap_alloc_old HX2.out)); obtain ⟨u0, u1, u2⟩ := box3 HX4.out; clear hown4 hb4 hg4) | (at_builtin; refine appS (by rfl) (.tmp 24) (.tmp 26) _ (by rfl) w.heap.size 31 _ 3 40 Try.underlying37 info_Drill (by decide) (by decide) _ _ (by rfl) (by simp [Value.oneCell']) _ _ _ (by rfl) HO4.out (by rfl) (by omega) (by omega) (by omega) ?_; intro v5 w5 hown5 hb5 hg5; obtain ⟨A5, c5, rfl⟩ := own_slice hown5; have HO5 := Lib.hid hown5; have HB5 := Lib.hid (HB4.out.trans hb5); clear hown5 hb5 hg5))
  go_ret2
  rw [e1.out.1, e1.out.2]
  refine DrillsPost.mk_ (n := n + 1) (by rw [List.length_append, HL.out]; simp) ?_ HB5.out
  have h9 := HO5.out
  rw [flat, List.flatMap_append]
  exact h9
theorem notin_next {l : List TDrill} {k : Nat} {x : TDrill} {s : ByteArray} (hx : l[k]? = some x) (h : s ∉ (l.take k).map (·.1)) (hne : x.1 ≠ s) : s ∉ (l.take (k + 1)).map (·.1) := notin_succ (nm := (·.1)) hx h (fun e => hne e.symm)
theorem rd_box {w : World} {g : Nat} {x y z : Value} {e : TypeId} (h : w.heap[g]? = some (.cells #[x, y, z] e (0, 0))) : Rd w w.heap.size 3 (some ⟨g, 0, none⟩) 1 [x, y, z] := by
  obtain ⟨c0, c1, c2⟩ := box3 h
  refine ⟨rfl, .inr ⟨g, 0, rfl, lt_of_block h, fun i v hv => ?_⟩⟩
  match i, hv with
  | 0, hv => simp at hv; subst hv; exact c0
  | 1, hv => simp at hv; subst hv; exact c1
  | 2, hv => simp at hv; subst hv; exact c2
theorem box_b {wr w4 : World} {a : Obj} {x y z : Value} {e : TypeId} {row : Option Nat} (hg : ((wr.alloc a).alloc (.cells #[x, y, z] e)).drew.grownBy w4 row) (hne : some (wr.heap.size + 1) ≠ row) : w4.heap[wr.heap.size + 1]? = some (.cells #[x, y, z] e (0, 0)) := by
  have h1 : ((wr.alloc a).alloc (.cells #[x, y, z] e)).drew.heap[wr.heap.size + 1]? = some (.cells #[x, y, z] e (0, 0)) := by
    have := heap_alloc_new (wr.alloc a) (.cells #[x, y, z] e)
    simp only [World.size_alloc] at this
    exact this
  exact (hg.block _ (lt_of_block h1) hne).trans h1
theorem box_c {wr w4 : World} {a : Obj} {x y z : Value} {e : TypeId} {row : Option Nat} (hg : ((wr.alloc (.cells #[x, y, z] e)).alloc a).drew.grownBy w4 row) (hne : some wr.heap.size ≠ row) : w4.heap[wr.heap.size]? = some (.cells #[x, y, z] e (0, 0)) := by
  have h1 : ((wr.alloc (.cells #[x, y, z] e)).alloc a).drew.heap[wr.heap.size]? = some (.cells #[x, y, z] e (0, 0)) := heap_alloc_old (heap_alloc_new wr (.cells #[x, y, z] e))
  exact (hg.block _ (lt_of_block h1) hne).trans h1
theorem own_made2 (wr : World) {a : Obj} {base sz : Nat} {e : TypeId} (hb : base ≤ wr.heap.size) : ((wr.alloc a).alloc (.cells #[] e)).drew.ownsRow base e sz (.slice (some ⟨wr.heap.size + 1, 0, none⟩) 0 0) 0 [] := by
  have := World.ownsRow_made (wr.alloc a) (e := e) (size := sz) (base := base) #[] 0 (by simp; omega) (by simp [maxLen]) (by simp)
  simp only [World.size_alloc] at this
  exact this
theorem at_ne {v v' : Value} {W : World} {b : Nat} (h : v'.ownBlock = v.ownBlock ∨ v'.ownBlock = some W.heap.size) (h1 : some b ≠ v.ownBlock) (h2 : W.heap.size ≠ b) : v'.ownBlock ≠ some b := by
  rcases h with h | h
  · rw [h]; exact h1.symm
  · rw [h]; exact fun e => h2 (Option.some.inj e)
theorem box_one {nm ls : ByteArray} {mi : Int} : ∀ u ∈ [Value.string nm, Value.string ls, Value.int .i64 mi], u.oneCell' = true := by
  intro u hu
  simp only [List.mem_cons, List.not_mem_nil, or_false] at hu
  rcases hu with rfl | rfl | rfl <;> rfl
set_option maxRecDepth 20000 in
set_option maxHeartbeats 8000000 in
theorem c_iAddDrill (A : Option Addr) (n c : Nat) (l : List TDrill) (nm ls : ByteArray) (mi : Int) (w : World) (ha : Sl drillC w w.heap.size 3 A n l) (hsz : DrSz l) (hn : n ≤ 1048576) (hnm : nm.size ≤ maxLen) (hls : ls.size ≤ maxLen) :
    Calls Try.prog 28 #[.slice A n c, .agg #[.string nm, .string ls, .int .i64 mi]] w (DrillsPost (addL l (nm, ls, mi)) (addC l (nm, ls, mi)) w) := by
  have HL := Lib.hid ha.1
  have HA := Lib.hid ha
  have HSZ := Lib.hid hsz
  have HA1 := Lib.hid (fun o => ha.later (Below.alloc (Below.refl _ _) (Nat.le_refl _) o))
  clear ha hsz
  cases h1 : drsB l
  · have e1 : Hid (addL l (nm, ls, mi) = [] ∧ addC l (nm, ls, mi) = 1) := by constructor <;> simp [addL, addC, h1]
    have H1 := Lib.hid h1
    clear h1
    go_enter Try.func28, Try.ntmps28
    go_wp2_with (go_at_call 23; refine (c_iValidDrills _ _ _ l _ H1.out _ (HA1.out _) HSZ.out hn).mono ?_; rintro r_ w1 ⟨rfl, hb1⟩; have HB1 := Lib.hid (((Below.refl _ w).alloc (Nat.le_refl _) (.cells #[.string nm, .string ls, .int .i64 mi] 31)).trans (hb1.mono (by simp))); have hz1 := HB1.out.size; clear hb1)
    go_ret2
    rw [e1.out.1, e1.out.2]
    exact DrillsPost.err HB1.out
  have h10 := drs_len h1
  rw [HL.out] at h10
  have H1 := Lib.hid h1
  cases h2 : okDr (nm, ls, mi)
  · have e1 : Hid (addL l (nm, ls, mi) = [] ∧ addC l (nm, ls, mi) = 2) := by constructor <;> simp [addL, addC, h1, h2]
    have H2 := Lib.hid h2
    clear h1 h2
    go_enter Try.func28, Try.ntmps28
    go_wp2_with (first | (go_at_call 23; refine (c_iValidDrills _ _ _ l _ H1.out _ (HA1.out _) HSZ.out hn).mono ?_; rintro r_ w1 ⟨rfl, hb1⟩; have HB1 := Lib.hid (((Below.refl _ w).alloc (Nat.le_refl _) (.cells #[.string nm, .string ls, .int .i64 mi] 31)).trans (hb1.mono (by simp))); have hz1 := HB1.out.size; have HX1 := Lib.hid ((hb1.block w.heap.size (by simp)).trans (heap_alloc_new w (.cells #[.string nm, .string ls, .int .i64 mi] 31))); obtain ⟨x0, x1, x2⟩ := box3 HX1.out; have hl1 := lt_of_block HX1.out; clear hb1) | (go_at_call 46; refine (c_validDrill _ _ _ _ H2.out _ hnm hls).mono ?_; rintro r_ w2 ⟨rfl, hb2⟩; have HB2 := Lib.hid (HB1.out.trans (hb2.mono hz1)); clear hb2))
    go_ret2
    rw [e1.out.1, e1.out.2]
    exact DrillsPost.err HB2.out
  have H2 := Lib.hid h2
  have E4 : Hid (nm ∈ l.map (·.1) → addL l (nm, ls, mi) = [] ∧ addC l (nm, ls, mi) = 4) := fun h3 => by constructor <;> simp only [addL, addC, h1, h2, h3, if_true]
  have E5 : Hid (nm ∉ l.map (·.1) → 10 ≤ n → addL l (nm, ls, mi) = [] ∧ addC l (nm, ls, mi) = 5) := fun h3 h4 => by constructor <;> simp only [addL, addC, h1, h2, h3, if_true, if_false, HL.out, h4]
  have E0 : Hid (nm ∉ l.map (·.1) → ¬ 10 ≤ n → addL l (nm, ls, mi) = l ++ [(nm, ls, mi)] ∧ addC l (nm, ls, mi) = 0) := fun h3 h4 => by constructor <;> simp only [addL, addC, h1, h2, h3, if_true, if_false, HL.out, h4]
  clear h1 h2
  go_enter Try.func28, Try.ntmps28
  go_wp2_with (first | (go_at_call 23; refine (c_iValidDrills _ _ _ l _ H1.out _ (HA1.out _) HSZ.out hn).mono ?_; rintro r_ w1 ⟨rfl, hb1⟩; have HB1 := Lib.hid (((Below.refl _ w).alloc (Nat.le_refl _) (.cells #[.string nm, .string ls, .int .i64 mi] 31)).trans (hb1.mono (by simp))); have hz1 := HB1.out.size; have HX1 := Lib.hid ((hb1.block w.heap.size (by simp)).trans (heap_alloc_new w (.cells #[.string nm, .string ls, .int .i64 mi] 31))); obtain ⟨x0, x1, x2⟩ := box3 HX1.out; have hl1 := lt_of_block HX1.out; clear hb1) | (go_at_call 46; refine (c_validDrill _ _ _ _ H2.out _ hnm hls).mono ?_; rintro r_ w2 ⟨rfl, hb2⟩; have HB2 := Lib.hid (HB1.out.trans (hb2.mono hz1)); have hz2 := HB2.out.size; have HX2 := Lib.hid ((hb2.block w.heap.size hl1).trans HX1.out); obtain ⟨y0, y1, y2⟩ := box3 HX2.out; have hl2 := lt_of_block HX2.out; have HA2 := Lib.hid (HA.out.later HB2.out); clear hb2 x0 x1 x2 hl1 hz1))
  clear HB1 HX1
  go_loopw [16] (fun i wr => ∃ k : Nat, k ≤ n ∧ i = .int .i64 k ∧ Below w2.heap.size w2 wr ∧ Hid (nm ∉ (l.take k).map (·.1))) (fun i _ => n - (intOf i).toNat)
  case atStart => exact ⟨0, Nat.zero_le _, rfl, Below.refl _ _, by simp [Hid]⟩
  case round =>
    obtain ⟨k, hk, rfl, hB, hno⟩ := hrel
    have hz := hB.size
    have HX3 := Lib.hid ((hB.block w.heap.size hl2).trans HX2.out)
    obtain ⟨z0, z1, z2⟩ := box3 HX3.out
    have hl3 := lt_of_block HX3.out
    clear y0 y1 y2
    by_cases hlt : k < n
    · obtain ⟨b, o, u0, u1, u2, rfl, hb1, hb2, hx, c0, c1, c2⟩ := drill_at HA2.out hB hlt
      have HX := Lib.hid hx
      clear hx
      by_cases he : u0 = nm
      · have ht := txt_eq he
        have HE := Lib.hid (E4.out (List.mem_map.2 ⟨_, List.mem_of_getElem? HX.out, he⟩))
        clear he
        go_wp2_with fail
        go_ret2
        rw [HE.out.1, HE.out.2]
        exact DrillsPost.err (HB2.out.trans ((by (repeat' (first | (with_reducible exact Below.refl _ _) | (with_reducible assumption) | (with_reducible refine below_drewN ?_ _) | (with_reducible refine Below.drew ?_) | (with_reducible refine Below.alloc ?_ ?_ _) | (with_reducible refine Below.setCell ?_ ?_ _) | go_size)) : Below w2.heap.size w2 _).mono hz2))
      · have ht := txt_ne he
        have HN := Lib.hid (notin_next HX.out hno.out he)
        clear he
        go_wp2_with fail
        go_roundw
        case rel => exact ⟨k + 1, by omega, by go_num, by (repeat' (first | (with_reducible exact Below.refl _ _) | (with_reducible assumption) | (with_reducible refine below_drewN ?_ _) | (with_reducible refine Below.drew ?_) | (with_reducible refine Below.alloc ?_ ?_ _) | (with_reducible refine Below.setCell ?_ ?_ _) | go_size)), HN.out⟩
        case measure => simp [intOf]; omega
    · obtain rfl : k = n := by omega
      have h3 := hno.out
      rw [List.take_of_length_le (by rw [HL.out]; omega)] at h3
      have HB3 := Lib.hid (HB2.out.trans (hB.mono hz2))
      by_cases h4 : 10 ≤ k
      · obtain rfl : k = 10 := by omega
        have HE := Lib.hid (E5.out h3 h4)
        clear h3 h4 hno
        go_wp2_with fail
        go_ret2
        rw [HE.out.1, HE.out.2]
        exact DrillsPost.err HB3.out
      · have HE := Lib.hid (E0.out h3 h4)
        have i1 : ((k : Int) == 10) = false := by rw [beq_eq_false_iff_ne]; omega
        have hk10 : k < 10 := by omega
        clear h3 h4 hno
        go_wp2_with fail
        have hz9 : w.heap.size ≤ wr.heap.size := HB3.out.size
        have HA3 := Lib.hid (HA.out.later HB3.out)
        clear HA1 HA2 HB2 HX2
        have hBB := HB3.out
        go_region_held3 (fun w' => w'.cell? ⟨w.heap.size, 0, none⟩ = some (.string nm) ∧ w'.cell? ⟨w.heap.size, 1, none⟩ = some (.string ls) ∧ w'.cell? ⟨w.heap.size, 2, none⟩ = some (.int .i64 mi)) (first | go_keep | exact ⟨u0, u1, u2⟩ | exact ⟨t0, t1, t2⟩) (first | (refine apStepS (by rfl) (.tmp 29) (.tmp 30) _ (by rfl) w.heap.size 31 _ 3 40 Try.underlying37 info_Drill (by rfl) (by decide) _ _ 0 [] (by rfl) ?own wr.heap.size A k c (flat drillC l) (by rfl) ?rd flat_one ?q63 ?q64 ?qbase ?_; (case own => first | exact own_drewA (World.ownsRow_made wr #[] 0 hz9 (by simp [maxLen]) rfl) | exact own_drewA ((World.ownsRow_made wr #[] 0 hz9 (by simp [maxLen]) rfl).alloc _) | exact own_made2 wr hz9); (case rd => exact HA3.out.rdBelow (by (repeat' (first | (with_reducible exact Below.refl _ _) | (with_reducible assumption) | (with_reducible refine below_drewN ?_ _) | (with_reducible refine Below.drew ?_) | (with_reducible refine Below.alloc ?_ ?_ _) | (with_reducible refine Below.setCell ?_ ?_ _) | go_size)))); (case q63 => omega); (case q64 => decide); (case qbase => exact Below.size (by (repeat' (first | (with_reducible exact Below.refl _ _) | (with_reducible assumption) | (with_reducible refine below_drewN ?_ _) | (with_reducible refine Below.drew ?_) | (with_reducible refine Below.alloc ?_ ?_ _) | (with_reducible refine Below.setCell ?_ ?_ _) | go_size)) : Below w.heap.size w _)); intro v4 w4 hown4 hb4 hg4 hat4; rw [Nat.zero_add, List.nil_append] at hown4; obtain ⟨A4, c4, rfl⟩ := own_slice hown4; have HO4 := Lib.hid hown4; have HX4 := Lib.hid (gb_old hg4 (by (repeat' (first | (with_reducible exact Below.refl _ _) | (with_reducible assumption) | (with_reducible refine below_drewN ?_ _) | (with_reducible refine Below.drew ?_) | (with_reducible refine Below.alloc ?_ ?_ _) | (with_reducible refine Below.setCell ?_ ?_ _) | go_size))) HX3.out (own_ne_fresh (by omega))); obtain ⟨u0, u1, u2⟩ := box3 HX4.out; have HB4 : Below w.heap.size w w4 := below_pre hb4 (by (repeat' (first | (with_reducible exact Below.refl _ _) | (with_reducible assumption) | (with_reducible refine below_drewN ?_ _) | (with_reducible refine Below.drew ?_) | (with_reducible refine Below.alloc ?_ ?_ _) | (with_reducible refine Below.setCell ?_ ?_ _) | go_size))); have hz4 := HB4.size; have HG4 := Lib.hid (at_ne (b := w.heap.size) hat4 (own_ne_fresh (by omega)) (Nat.ne_of_gt (Nat.lt_of_lt_of_le hl3 (Below.size (by (repeat' (first | (with_reducible exact Below.refl _ _) | (with_reducible assumption) | (with_reducible refine below_drewN ?_ _) | (with_reducible refine Below.drew ?_) | (with_reducible refine Below.alloc ?_ ?_ _) | (with_reducible refine Below.setCell ?_ ?_ _) | go_size)) : Below wr.heap.size wr _))))); (try have HBX := Lib.hid (box_b hg4 (own_ne_fresh (by omega)))); (try have HBX := Lib.hid (box_c hg4 (own_ne_fresh (by omega)))); clear hown4 hb4 hg4 hat4) | (refine apStepS (by rfl) (.tmp 31) (.tmp 33) _ (by rfl) w.heap.size 31 _ 3 40 Try.underlying37 info_Drill (by rfl) (by decide) _ _ k (flat drillC l) (by rfl) (HO4.out.alloc _) (w4.alloc (.cells #[.string nm, .string ls, .int .i64 mi] 31)).heap.size _ 1 1 [.string nm, .string ls, .int .i64 mi] (by rfl) (rd_box (heap_alloc_new w4 _)) box_one ?q63 ?q64 ?qbase ?_; (case q63 => omega); (case q64 => decide); (case qbase => exact Below.size (by (repeat' (first | (with_reducible exact Below.refl _ _) | (with_reducible assumption) | (with_reducible refine below_drewN ?_ _) | (with_reducible refine Below.drew ?_) | (with_reducible refine Below.alloc ?_ ?_ _) | (with_reducible refine Below.setCell ?_ ?_ _) | go_size)) : Below w.heap.size w _)); intro v5 w5 hown5 hb5 hg5 _; obtain ⟨A5, c5, rfl⟩ := own_slice hown5; have HO5 := Lib.hid hown5; have HX5 := Lib.hid (gb_old hg5 (by (repeat' (first | (with_reducible exact Below.refl _ _) | (with_reducible assumption) | (with_reducible refine below_drewN ?_ _) | (with_reducible refine Below.drew ?_) | (with_reducible refine Below.alloc ?_ ?_ _) | (with_reducible refine Below.setCell ?_ ?_ _) | go_size))) HX4.out (fun e => HG4.out e.symm)); obtain ⟨t0, t1, t2⟩ := box3 HX5.out; have HB5 : Hid (Below w.heap.size w w5) := below_pre hb5 (by (repeat' (first | (with_reducible exact Below.refl _ _) | (with_reducible assumption) | (with_reducible refine below_drewN ?_ _) | (with_reducible refine Below.drew ?_) | (with_reducible refine Below.alloc ?_ ?_ _) | (with_reducible refine Below.setCell ?_ ?_ _) | go_size))); clear hown5 hb5 hg5) | (refine apStepS (by rfl) (.tmp 31) (.tmp 33) _ (by rfl) w.heap.size 31 _ 3 40 Try.underlying37 info_Drill (by rfl) (by decide) _ _ k (flat drillC l) (by rfl) HO4.out w4.heap.size _ 1 1 [.string nm, .string ls, .int .i64 mi] (by rfl) (rd_box HBX.out) box_one ?q63 ?q64 ?qbase ?_; (case q63 => omega); (case q64 => decide); (case qbase => exact Below.size (by (repeat' (first | (with_reducible exact Below.refl _ _) | (with_reducible assumption) | (with_reducible refine below_drewN ?_ _) | (with_reducible refine Below.drew ?_) | (with_reducible refine Below.alloc ?_ ?_ _) | (with_reducible refine Below.setCell ?_ ?_ _) | go_size)) : Below w.heap.size w _)); intro v5 w5 hown5 hb5 hg5 _; obtain ⟨A5, c5, rfl⟩ := own_slice hown5; have HO5 := Lib.hid hown5; have HX5 := Lib.hid (gb_old hg5 (by (repeat' (first | (with_reducible exact Below.refl _ _) | (with_reducible assumption) | (with_reducible refine below_drewN ?_ _) | (with_reducible refine Below.drew ?_) | (with_reducible refine Below.alloc ?_ ?_ _) | (with_reducible refine Below.setCell ?_ ?_ _) | go_size))) HX4.out (fun e => HG4.out e.symm)); obtain ⟨t0, t1, t2⟩ := box3 HX5.out; have HB5 : Hid (Below w.heap.size w w5) := below_pre hb5 (by (repeat' (first | (with_reducible exact Below.refl _ _) | (with_reducible assumption) | (with_reducible refine below_drewN ?_ _) | (with_reducible refine Below.drew ?_) | (with_reducible refine Below.alloc ?_ ?_ _) | (with_reducible refine Below.setCell ?_ ?_ _) | go_size))); clear hown5 hb5 hg5))
        all_goals
          go_wp2_with fail
          go_ret2
          rw [HE.out.1, HE.out.2]
          refine DrillsPost.mk_ (n := k + 1) (by rw [List.length_append, HL.out]; simp) ?_ HB5.out
          have h9 := HO5.out
          rw [flat, List.flatMap_append]
          exact h9
end Go.Proofs.Ytnjmjopbeojfoaa
