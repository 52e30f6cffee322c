/- Go's sort.SliceStable at 40 elements or fewer, all different: a permutation, sorted in the strict order that ties by the first place. -/
import Derived.Test.YtjigkogopmebeaaSm4
namespace Go.Proofs.Ytjigkogopmebeaa
open Go.Shelf Go.RowKit Go.Lib Go.Sort
section
variable {P : Program} {ρ : Ren} {α : Type} [Inhabited α]

/-- Of two places the later one's element is less just if it is ahead in R. -/
def Later2 (lt R : α → α → Bool) (a b : Nat) (d : Array α) : Prop := ∀ t k, a ≤ k → k < t → t < b → lt d[t]! d[k]! = R d[t]! d[k]!
theorem nodup_ne {d : Array α} (hn : d.toList.Nodup) {i j : Nat} (hi : i < j) (hj : j < d.size) : d[i]! ≠ d[j]! := by
  have := List.pairwise_iff_getElem.1 hn i j (by simp; omega) (by simpa using hj) hi
  rw [getElem!_pos d i (by omega), getElem!_pos d j hj]
  simpa using this
omit [Inhabited α] in
theorem nodup_extract {d : Array α} (hn : d.toList.Nodup) (a b : Nat) : (d.extract a b).toList.Nodup := by
  rw [Array.toList_extract]
  exact (List.extract_eq_take_drop (l := d.toList) ▸ (List.Sublist.trans (List.take_sublist _ _) (List.drop_sublist _ _)).nodup hn)
theorem crs_blocks {lt R : α → α → Bool} (hT : Tot R) {m n : Nat} {d d1 d2 : Array α} (_hmn : m ≤ n) (hn : n ≤ d.size) (hd : d.toList.Nodup) (h : Later2 lt R 0 n d) (p1 : PermIn 0 m d d1) (p2 : PermIn m n d1 d2) : Crs lt R 0 m n d2 := by
  intro s t _ h2 h3 h4
  have base : ∀ k j, k < m → m ≤ j → j < n → (lt d[j]! d[k]! = true → R d[j]! d[k]! = true) ∧ (lt d[j]! d[k]! = false → R d[k]! d[j]! = true) := fun k j hk hj1 hj2 => by
    have e := h j k (Nat.zero_le _) (by omega) hj2
    refine ⟨fun h => e ▸ h, fun h => ?_⟩
    cases e2 : R d[k]! d[j]!
    · exact absurd (hT.tot _ _ e2 (e ▸ h)) (nodup_ne hd (by omega) (by omega))
    · rfl
  have z1 := p1.1
  have a1 : ∀ k, k < m → ∀ j, m ≤ j → j < n → (lt d1[j]! d1[k]! = true → R d1[j]! d1[k]! = true) ∧ (lt d1[j]! d1[k]! = false → R d1[k]! d1[j]! = true) := fun k hk j hj1 hj2 => by
    rw [p1.2.1 j (by omega)]
    exact permIn_all d d1 0 m (fun x => (lt d[j]! x = true → R d[j]! x = true) ∧ (lt d[j]! x = false → R x d[j]! = true)) (by omega) p1 (fun i _ hi => base i j hi hj1 hj2) k (Nat.zero_le _) hk
  rw [p2.2.1 s (by omega)]
  exact permIn_all d1 d2 m n (fun y => (lt y d1[s]! = true → R y d1[s]! = true) ∧ (lt y d1[s]! = false → R d1[s]! y = true)) (by omega) p2 (fun j hj1 hj2 => a1 s h2 j hj1 hj2) t h3 h4
theorem ins_in_size (lt : α → α → Bool) (a : Nat) : ∀ (j : Nat) (d : Array α), (insInner lt a j d).size = d.size := by
  intro j
  induction j with
  | zero => intro d; rfl
  | succ j ih =>
    intro d
    rw [insInner]
    split
    · rw [ih, size_swp]
    · rfl
theorem ins_out_size (lt : α → α → Bool) (a b s : Nat) : ∀ (i : Nat) (d : Array α), b - i ≤ s → (insOuter lt a b i d).size = d.size := by
  induction s with
  | zero => intro i d h; rw [insOuter_stop _ _ _ _ _ (by omega)]
  | succ s ih =>
    intro i d h
    by_cases c : i < b
    · rw [insOuter_go _ _ _ _ _ c, ih _ _ (by omega), ins_in_size]
    · rw [insOuter_stop _ _ _ _ _ c]
theorem ins_size (lt : α → α → Bool) (d : Array α) (a b : Nat) : (insertionSort lt d a b).size = d.size := ins_out_size lt a b _ (a + 1) d (Nat.le_refl _)
/-- Two blocks sorted each by itself. -/
theorem two_blocks {lt R : α → α → Bool} (hT : Tot R) {m n : Nat} {d : Array α} (hmn : m ≤ n) (hn : n = d.size) (hd : d.toList.Nodup) (h : Later2 lt R 0 n d) :
    PermIn 0 n d (insertionSort lt (insertionSort lt d 0 m) m n) ∧ Srt R 0 m (insertionSort lt (insertionSort lt d 0 m) m n) ∧ Srt R m n (insertionSort lt (insertionSort lt d 0 m) m n) ∧ Crs lt R 0 m n (insertionSort lt (insertionSort lt d 0 m) m n) := by
  obtain ⟨p1, s1⟩ := ins_srt (lt := lt) hT (Nat.zero_le m) (by omega) (nodup_extract hd 0 m) (fun t k _ h2 h3 => h t k (Nat.zero_le _) h2 (by omega))
  have z1 := p1.1
  have ex : (insertionSort lt d 0 m).extract m n = d.extract m n := by
    apply Array.ext (by simp [z1])
    intro i hi1 hi2
    simp only [Array.getElem_extract]
    have := p1.2.1 (m + i) (by omega)
    simp at hi1 hi2
    rwa [getElem!_pos _ _ (by omega), getElem!_pos _ _ (by omega)] at this
  obtain ⟨p2, s2⟩ := ins_srt (lt := lt) (d := insertionSort lt d 0 m) hT hmn (by omega) (by rw [ex]; exact nodup_extract hd m n) (fun t k h1 h2 h3 => by rw [p1.2.1 t (by omega), p1.2.1 k (by omega)]; exact h t k (Nat.zero_le _) h2 h3)
  exact ⟨permIn_trans _ _ _ _ _ (permIn_mono _ _ _ _ _ _ (Nat.le_refl _) hmn (by omega) p1) (permIn_mono _ _ _ _ _ _ (Nat.zero_le _) (Nat.le_refl _) (by omega) p2), s1.keep p2 (.inr (Nat.le_refl _)), s2, crs_blocks hT hmn (by omega) hd h p1 p2⟩

set_option maxHeartbeats 8000000 in
set_option maxRecDepth 100000 in
theorem stable_mid (L : LaysGt.n15 P ρ) (enc : α → Value) (lt R : α → α → Bool) (hT : Tot R) (g : Nat) (lb : Array Value) (sf : Nat) (sb : Array Value) (blk off : Nat) (d : Array α) (W : World)
    (eg : ∀ args w, (callFunc g args).run P w = .ok (.enter g args) w) (hless : LessG P g lb enc lt blk off d.size W) (hswap : SwapSwaps P sf sb enc blk off d.size) (hH : Holds enc W blk off d) (hblk : blk < W.heap.size) (hd : d.toList.Nodup) (hlat : Later2 lt R 0 d.size d) (h1 : 20 < d.size) (h2 : d.size < 40) :
    Calls P (ρ.f 15) #[.agg #[.func (.func g) #[] lb, .func (.func sf) #[] sb], .int .i64 d.size] W fun e w' => e = .returned (.tuple #[]) ∧ ∃ d', SW enc W blk off d' w' ∧ PermIn 0 d.size d d' ∧ Srt R 0 d.size d' := by
  have mixed := L.mixed; have t0 := L.t0; have a0 := L.a0; have z0 := L.z0; have v0 := L.v0; have t3 := L.t3; have a3 := L.a3; have z3 := L.z3; have v3 := L.v3; have t4 := L.t4; have a4 := L.a4; have z4 := L.z4; have v4 := L.v4; have t26 := L.t26; have a26 := L.a26; have z26 := L.z26; have v26 := L.v26; have t38 := L.t38; have a38 := L.a38; have z38 := L.z38; have v38 := L.v38; have t42 := L.t42; have a42 := L.a42; have z42 := L.z42; have v42 := L.v42; have t47 := L.t47; have a47 := L.a47; have z47 := L.z47; have v47 := L.v47
  have u42 := run_underlying L.t42
  have e29 : ∀ args w, (callFunc (ρ.f 29) args).run P w = .ok (.enter (ρ.f 29) args) w := enters_of L.f29 (by kernel_rfl) rfl
  have e30 : ∀ args w, (callFunc (ρ.f 30) args).run P w = .ok (.enter (ρ.f 30) args) w := enters_of L.f30 (by kernel_rfl) rfl
  have hs1 := (SW.start hH).alloc (.cells #[.func (.func g) #[] lb, .func (.func sf) #[] sb] (ρ.t 42))
  have hH1 := holds_alloc (o := (.cells #[.func (.func g) #[] lb, .func (.func sf) #[] sb] (ρ.t 42))) hH hblk
  have hb1 : blk < (W.alloc (.cells #[.func (.func g) #[] lb, .func (.func sf) #[] sb] (ρ.t 42))).heap.size := by simp; omega
  have bx : ∀ (k : Nat) (v : Value), (W.alloc (.cells #[.func (.func g) #[] lb, .func (.func sf) #[] sb] (ρ.t 42))).cell? ⟨W.heap.size, k, none⟩ = some v → ∀ (dk : Array α) wr, SW enc (W.alloc (.cells #[.func (.func g) #[] lb, .func (.func sf) #[] sb] (ρ.t 42))) blk off dk wr → wr.cell? ⟨W.heap.size, k, none⟩ = some v := fun k v h dk wr hs => (swCell hs (by simp) (by omega)).trans h
  have BX0 := Lib.hid (bx 0 (.func (.func g) #[] lb) (by simp))
  have BX1 := Lib.hid (bx 1 (.func (.func sf) #[] sb) (by simp))
  have S0 := Lib.hid (SW.start hH1)
  have INS : Hid (∀ (dk : Array α) (x y : Nat) (wr : World), dk.size = d.size → SW enc (W.alloc (.cells #[.func (.func g) #[] lb, .func (.func sf) #[] sb] (ρ.t 42))) blk off dk wr → x ≤ y → y ≤ d.size →
      Calls P (ρ.f 29) #[.agg #[.func (.func g) #[] lb, .func (.func sf) #[] sb], .int .i64 x, .int .i64 y] wr fun e w' => e = .returned (.tuple #[]) ∧ SW enc (W.alloc (.cells #[.func (.func g) #[] lb, .func (.func sf) #[] sb] (ρ.t 42))) blk off (insertionSort lt dk x y) w') :=
    fun dk x y wr h1 h2 h3 h4 => (ins_w { L with } enc lt g lb sf sb blk off d W eg hless hswap hH hblk (by omega) dk h1 x y wr (swTrans hs1 h2 hblk h1) h3 (h1 ▸ h4)).mono fun _ _ h => ⟨h.1, swTrans h2 h.2 hb1 (ins_size _ _ _ _)⟩
  have TB := Lib.hid (two_blocks (lt := lt) hT (show 20 ≤ d.size by omega) rfl hd hlat)
  have MER : Hid (∀ (wr : World), SW enc (W.alloc (.cells #[.func (.func g) #[] lb, .func (.func sf) #[] sb] (ρ.t 42))) blk off (insertionSort lt (insertionSort lt d 0 20) 20 d.size) wr →
      Calls P (ρ.f 30) #[.agg #[.func (.func g) #[] lb, .func (.func sf) #[] sb], .int .i64 (0 : Nat), .int .i64 (20 : Nat), .int .i64 d.size] wr fun e w' => e = .returned (.tuple #[]) ∧ ∃ d', SW enc (W.alloc (.cells #[.func (.func g) #[] lb, .func (.func sf) #[] sb] (ρ.t 42))) blk off d' w' ∧ PermIn 0 d.size d d' ∧ Srt R 0 d.size d') := by
    intro wr h2
    obtain ⟨p, q1, q2, q3⟩ := TB.out
    refine (symMerge_w { L with } enc lt R hT.toOrd g lb sf sb blk off d W eg hless hswap hH hblk (by omega) d.size _ 0 20 d.size wr (by omega) p.1 (swTrans hs1 h2 hblk p.1) (by omega) (by omega) (by rw [p.1]; exact Nat.le_refl _) q1 q2 q3).mono ?_
    rintro e w' ⟨rfl, d', k1, k2, k3⟩
    exact ⟨rfl, d', swTrans h2 k1 hb1 k2.1, permIn_trans _ _ _ _ _ p k2, k3⟩
  have DONE : Hid (∀ (D : Array α) (wr : World), SW enc (W.alloc (.cells #[.func (.func g) #[] lb, .func (.func sf) #[] sb] (ρ.t 42))) blk off D wr → SW enc W blk off D wr) := fun D wr h => swUnalloc h hblk
  have Z1 : Hid ((insertionSort lt d 0 20).size = d.size) := (ins_srt (lt := lt) hT (Nat.zero_le 20) (by omega) (nodup_extract hd 0 20) (fun t k _ h2 h3 => hlat t k (Nat.zero_le _) h2 (by omega))).1.1
  have Z2 : Hid ((insertionSort lt (insertionSort lt d 0 20) 20 d.size).size = d.size) := TB.out.1.1
  clear bx hH hH1 hb1 hs1 hswap hless hlat hd TB
  have X1 := Lib.hid (INS.out d 0 20 _ rfl S0.out (by omega) (by omega))
  have q1 : ¬ (40 : Int) ≤ d.size := by omega
  have q2 : (20 : Int) ≤ d.size := by omega
  have q3 : (20 : Int) < d.size := by omega
  have q4 : ¬ (40 : Int) < d.size := by omega
  go_enter L.f15, BodyGt.n15_ntmps ρ
  go_wp2
  refine wp_loop_rounds 2 ?_
  rw [rounds_succ]
  go_wp2_with (go_at_fn (ρ.f 29); (refine (X1.out).mono ?_; rintro e w1 ⟨rfl, hw1⟩; have W1 := Lib.hid hw1; clear hw1; have c0 := BX0.out _ _ W1.out; have c1 := BX1.out _ _ W1.out))
  rw [rounds_succ]
  have X2 := Lib.hid (INS.out _ 20 d.size w1 Z1.out W1.out (by omega) (Nat.le_refl _))
  go_wp2_with (go_at_fn (ρ.f 29); (refine (X2.out).mono ?_; rintro e w2 ⟨rfl, hw2⟩; have W2 := Lib.hid hw2; clear hw2; have c0 := BX0.out _ _ W2.out; have c1 := BX1.out _ _ W2.out))
  refine wp_loop_rounds 2 ?_
  rw [rounds_succ]
  go_wp2
  refine wp_loop_rounds 1 ?_
  rw [rounds_succ]
  have X3 := Lib.hid (MER.out w2 W2.out)
  go_wp2_with (go_at_fn (ρ.f 30); refine X3.out.mono ?_; rintro e w3 ⟨rfl, d', hS, hP, hR⟩; have HS := Lib.hid (And.intro hS (And.intro hP hR)); clear hS hP hR)
  rw [rounds_succ]
  go_wp2
  go_end0
  exact ⟨rfl, d', DONE.out _ _ HS.out.1, HS.out.2.1, HS.out.2.2⟩

set_option maxHeartbeats 8000000 in
set_option maxRecDepth 100000 in
theorem stable_at40 (L : LaysGt.n15 P ρ) (enc : α → Value) (lt R : α → α → Bool) (hT : Tot R) (g : Nat) (lb : Array Value) (sf : Nat) (sb : Array Value) (blk off : Nat) (d : Array α) (W : World)
    (eg : ∀ args w, (callFunc g args).run P w = .ok (.enter g args) w) (hless : LessG P g lb enc lt blk off d.size W) (hswap : SwapSwaps P sf sb enc blk off d.size) (hH : Holds enc W blk off d) (hblk : blk < W.heap.size) (hd : d.toList.Nodup) (hlat : Later2 lt R 0 d.size d) (h1 : d.size = 40) :
    Calls P (ρ.f 15) #[.agg #[.func (.func g) #[] lb, .func (.func sf) #[] sb], .int .i64 d.size] W fun e w' => e = .returned (.tuple #[]) ∧ ∃ d', SW enc W blk off d' w' ∧ PermIn 0 d.size d d' ∧ Srt R 0 d.size d' := by
  have mixed := L.mixed; have t0 := L.t0; have a0 := L.a0; have z0 := L.z0; have v0 := L.v0; have t3 := L.t3; have a3 := L.a3; have z3 := L.z3; have v3 := L.v3; have t4 := L.t4; have a4 := L.a4; have z4 := L.z4; have v4 := L.v4; have t26 := L.t26; have a26 := L.a26; have z26 := L.z26; have v26 := L.v26; have t38 := L.t38; have a38 := L.a38; have z38 := L.z38; have v38 := L.v38; have t42 := L.t42; have a42 := L.a42; have z42 := L.z42; have v42 := L.v42; have t47 := L.t47; have a47 := L.a47; have z47 := L.z47; have v47 := L.v47
  have u42 := run_underlying L.t42
  have e29 : ∀ args w, (callFunc (ρ.f 29) args).run P w = .ok (.enter (ρ.f 29) args) w := enters_of L.f29 (by kernel_rfl) rfl
  have e30 : ∀ args w, (callFunc (ρ.f 30) args).run P w = .ok (.enter (ρ.f 30) args) w := enters_of L.f30 (by kernel_rfl) rfl
  have hs1 := (SW.start hH).alloc (.cells #[.func (.func g) #[] lb, .func (.func sf) #[] sb] (ρ.t 42))
  have hH1 := holds_alloc (o := (.cells #[.func (.func g) #[] lb, .func (.func sf) #[] sb] (ρ.t 42))) hH hblk
  have hb1 : blk < (W.alloc (.cells #[.func (.func g) #[] lb, .func (.func sf) #[] sb] (ρ.t 42))).heap.size := by simp; omega
  have bx : ∀ (k : Nat) (v : Value), (W.alloc (.cells #[.func (.func g) #[] lb, .func (.func sf) #[] sb] (ρ.t 42))).cell? ⟨W.heap.size, k, none⟩ = some v → ∀ (dk : Array α) wr, SW enc (W.alloc (.cells #[.func (.func g) #[] lb, .func (.func sf) #[] sb] (ρ.t 42))) blk off dk wr → wr.cell? ⟨W.heap.size, k, none⟩ = some v := fun k v h dk wr hs => (swCell hs (by simp) (by omega)).trans h
  have BX0 := Lib.hid (bx 0 (.func (.func g) #[] lb) (by simp))
  have BX1 := Lib.hid (bx 1 (.func (.func sf) #[] sb) (by simp))
  have S0 := Lib.hid (SW.start hH1)
  have INS : Hid (∀ (dk : Array α) (x y : Nat) (wr : World), dk.size = d.size → SW enc (W.alloc (.cells #[.func (.func g) #[] lb, .func (.func sf) #[] sb] (ρ.t 42))) blk off dk wr → x ≤ y → y ≤ d.size →
      Calls P (ρ.f 29) #[.agg #[.func (.func g) #[] lb, .func (.func sf) #[] sb], .int .i64 x, .int .i64 y] wr fun e w' => e = .returned (.tuple #[]) ∧ SW enc (W.alloc (.cells #[.func (.func g) #[] lb, .func (.func sf) #[] sb] (ρ.t 42))) blk off (insertionSort lt dk x y) w') :=
    fun dk x y wr h1 h2 h3 h4 => (ins_w { L with } enc lt g lb sf sb blk off d W eg hless hswap hH hblk (by omega) dk h1 x y wr (swTrans hs1 h2 hblk h1) h3 (h1 ▸ h4)).mono fun _ _ h => ⟨h.1, swTrans h2 h.2 hb1 (ins_size _ _ _ _)⟩
  have TB := Lib.hid (two_blocks (lt := lt) hT (show 20 ≤ d.size by omega) rfl hd hlat)
  have MER : Hid (∀ (wr : World), SW enc (W.alloc (.cells #[.func (.func g) #[] lb, .func (.func sf) #[] sb] (ρ.t 42))) blk off (insertionSort lt (insertionSort lt d 0 20) 20 d.size) wr →
      Calls P (ρ.f 30) #[.agg #[.func (.func g) #[] lb, .func (.func sf) #[] sb], .int .i64 (0 : Nat), .int .i64 (20 : Nat), .int .i64 d.size] wr fun e w' => e = .returned (.tuple #[]) ∧ ∃ d', SW enc (W.alloc (.cells #[.func (.func g) #[] lb, .func (.func sf) #[] sb] (ρ.t 42))) blk off d' w' ∧ PermIn 0 d.size d d' ∧ Srt R 0 d.size d') := by
    intro wr h2
    obtain ⟨p, q1, q2, q3⟩ := TB.out
    refine (symMerge_w { L with } enc lt R hT.toOrd g lb sf sb blk off d W eg hless hswap hH hblk (by omega) d.size _ 0 20 d.size wr (by omega) p.1 (swTrans hs1 h2 hblk p.1) (by omega) (by omega) (by rw [p.1]; exact Nat.le_refl _) q1 q2 q3).mono ?_
    rintro e w' ⟨rfl, d', k1, k2, k3⟩
    exact ⟨rfl, d', swTrans h2 k1 hb1 k2.1, permIn_trans _ _ _ _ _ p k2, k3⟩
  have DONE : Hid (∀ (D : Array α) (wr : World), SW enc (W.alloc (.cells #[.func (.func g) #[] lb, .func (.func sf) #[] sb] (ρ.t 42))) blk off D wr → SW enc W blk off D wr) := fun D wr h => swUnalloc h hblk
  have Z1 : Hid ((insertionSort lt d 0 20).size = d.size) := (ins_srt (lt := lt) hT (Nat.zero_le 20) (by omega) (nodup_extract hd 0 20) (fun t k _ h2 h3 => hlat t k (Nat.zero_le _) h2 (by omega))).1.1
  have Z2 : Hid ((insertionSort lt (insertionSort lt d 0 20) 20 d.size).size = d.size) := TB.out.1.1
  clear bx hH hH1 hb1 hs1 hswap hless hlat hd TB
  have X1 := Lib.hid (INS.out d 0 20 _ rfl S0.out (by omega) (by omega))
  rw [h1] at *
  go_enter L.f15, BodyGt.n15_ntmps ρ
  go_wp2
  refine wp_loop_rounds 3 ?_
  rw [rounds_succ]
  go_wp2_with (go_at_fn (ρ.f 29); (refine (X1.out).mono ?_; rintro e w1 ⟨rfl, hw1⟩; have W1 := Lib.hid hw1; clear hw1; have c0 := BX0.out _ _ W1.out; have c1 := BX1.out _ _ W1.out))
  rw [rounds_succ]
  have X2 := Lib.hid (INS.out _ 20 40 w1 Z1.out W1.out (by omega) (Nat.le_refl _))
  go_wp2_with (go_at_fn (ρ.f 29); (refine (X2.out).mono ?_; rintro e w2 ⟨rfl, hw2⟩; have W2 := Lib.hid hw2; clear hw2; have c0 := BX0.out _ _ W2.out; have c1 := BX1.out _ _ W2.out))
  rw [rounds_succ]
  have X4 := Lib.hid (INS.out _ 40 40 w2 Z2.out W2.out (by omega) (Nat.le_refl _))
  have X5 : Hid (insertionSort lt (insertionSort lt (insertionSort lt d 0 20) 20 40) 40 40 = insertionSort lt (insertionSort lt d 0 20) 20 40) := by show _ = _; unfold insertionSort; rw [insOuter_stop _ _ _ _ _ (by omega)]
  go_wp2_with (go_at_fn (ρ.f 29); (refine (X5.out ▸ X4.out).mono ?_; rintro e w3 ⟨rfl, hw3⟩; have W3 := Lib.hid hw3; clear hw3; have c0 := BX0.out _ _ W3.out; have c1 := BX1.out _ _ W3.out))
  refine wp_loop_rounds 2 ?_
  rw [rounds_succ]
  go_wp2
  refine wp_loop_rounds 2 ?_
  rw [rounds_succ]
  have X3 := Lib.hid (MER.out w3 W3.out)
  go_wp2_with (go_at_fn (ρ.f 30); refine X3.out.mono ?_; rintro e w4 ⟨rfl, d', hS, hP, hR⟩; have HS := Lib.hid (And.intro hS (And.intro hP hR)); clear hS hP hR)
  rw [rounds_succ]
  go_wp2
  rw [rounds_succ]
  go_wp2
  go_end0
  exact ⟨rfl, d', DONE.out _ _ HS.out.1, HS.out.2.1, HS.out.2.2⟩

end
end Go.Proofs.Ytjigkogopmebeaa
