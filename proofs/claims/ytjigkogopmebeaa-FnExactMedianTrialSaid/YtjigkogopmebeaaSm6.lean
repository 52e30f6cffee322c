/- Go's sort.SliceStable at 2 to 40 elements, all different. -/
import Derived.Test.YtjigkogopmebeaaSm5
namespace Go.Proofs.Ytjigkogopmebeaa
open Go.Shelf Go.RowKit Go.Lib Go.Sort
section
variable {P : Program} {ρ : Ren} {α : Type} [Inhabited α]

set_option maxHeartbeats 8000000 in
set_option maxRecDepth 100000 in
theorem stable_small (L : LaysGt.n15 P ρ) (enc : α → Value) (lt R : α → α → Bool) (hT : Tot R) (g : Nat) (lb : Array Value) (sf : Nat) (sb : Array Value) (blk off : Nat) (d : Array α) (W : World)
    (eg : ∀ args w, (callFunc g args).run P w = .ok (.enter g args) w) (hless : LessG P g lb enc lt blk off d.size W) (hswap : SwapSwaps P sf sb enc blk off d.size) (hH : Holds enc W blk off d) (hblk : blk < W.heap.size) (hd : d.toList.Nodup) (hlat : Later2 lt R 0 d.size d) (h1 : d.size < 20) :
    Calls P (ρ.f 15) #[.agg #[.func (.func g) #[] lb, .func (.func sf) #[] sb], .int .i64 d.size] W fun e w' => e = .returned (.tuple #[]) ∧ ∃ d', SW enc W blk off d' w' ∧ PermIn 0 d.size d d' ∧ Srt R 0 d.size d' := by
  have mixed := L.mixed; have t0 := L.t0; have a0 := L.a0; have z0 := L.z0; have v0 := L.v0; have t3 := L.t3; have a3 := L.a3; have z3 := L.z3; have v3 := L.v3; have t4 := L.t4; have a4 := L.a4; have z4 := L.z4; have v4 := L.v4; have t26 := L.t26; have a26 := L.a26; have z26 := L.z26; have v26 := L.v26; have t38 := L.t38; have a38 := L.a38; have z38 := L.z38; have v38 := L.v38; have t42 := L.t42; have a42 := L.a42; have z42 := L.z42; have v42 := L.v42; have t47 := L.t47; have a47 := L.a47; have z47 := L.z47; have v47 := L.v47
  have u42 := run_underlying L.t42
  have e29 : ∀ args w, (callFunc (ρ.f 29) args).run P w = .ok (.enter (ρ.f 29) args) w := enters_of L.f29 (by kernel_rfl) rfl
  have e30 : ∀ args w, (callFunc (ρ.f 30) args).run P w = .ok (.enter (ρ.f 30) args) w := enters_of L.f30 (by kernel_rfl) rfl
  have hs1 := (SW.start hH).alloc (.cells #[.func (.func g) #[] lb, .func (.func sf) #[] sb] (ρ.t 42))
  have hH1 := holds_alloc (o := (.cells #[.func (.func g) #[] lb, .func (.func sf) #[] sb] (ρ.t 42))) hH hblk
  have hb1 : blk < (W.alloc (.cells #[.func (.func g) #[] lb, .func (.func sf) #[] sb] (ρ.t 42))).heap.size := by simp; omega
  have bx : ∀ (k : Nat) (v : Value), (W.alloc (.cells #[.func (.func g) #[] lb, .func (.func sf) #[] sb] (ρ.t 42))).cell? ⟨W.heap.size, k, none⟩ = some v → ∀ (dk : Array α) wr, SW enc (W.alloc (.cells #[.func (.func g) #[] lb, .func (.func sf) #[] sb] (ρ.t 42))) blk off dk wr → wr.cell? ⟨W.heap.size, k, none⟩ = some v := fun k v h dk wr hs => (swCell hs (by simp) (by omega)).trans h
  have BX0 := Lib.hid (bx 0 (.func (.func g) #[] lb) (by simp))
  have BX1 := Lib.hid (bx 1 (.func (.func sf) #[] sb) (by simp))
  have S0 := Lib.hid (SW.start hH1)
  have INS : Hid (∀ (dk : Array α) (x y : Nat) (wr : World), dk.size = d.size → SW enc (W.alloc (.cells #[.func (.func g) #[] lb, .func (.func sf) #[] sb] (ρ.t 42))) blk off dk wr → x ≤ y → y ≤ d.size →
      Calls P (ρ.f 29) #[.agg #[.func (.func g) #[] lb, .func (.func sf) #[] sb], .int .i64 x, .int .i64 y] wr fun e w' => e = .returned (.tuple #[]) ∧ SW enc (W.alloc (.cells #[.func (.func g) #[] lb, .func (.func sf) #[] sb] (ρ.t 42))) blk off (insertionSort lt dk x y) w') :=
    fun dk x y wr h1 h2 h3 h4 => (ins_w { L with } enc lt g lb sf sb blk off d W eg hless hswap hH hblk (by omega) dk h1 x y wr (swTrans hs1 h2 hblk h1) h3 (h1 ▸ h4)).mono fun _ _ h => ⟨h.1, swTrans h2 h.2 hb1 (ins_size _ _ _ _)⟩
  have DONE : Hid (∀ (D : Array α) (wr : World), SW enc (W.alloc (.cells #[.func (.func g) #[] lb, .func (.func sf) #[] sb] (ρ.t 42))) blk off D wr → SW enc W blk off D wr) := fun D wr h => swUnalloc h hblk
  have RES := Lib.hid (ins_srt (lt := lt) (d := d) hT (Nat.zero_le d.size) (Nat.le_refl _) (nodup_extract hd 0 d.size) hlat)
  have X1 := Lib.hid (INS.out d 0 d.size _ rfl S0.out (Nat.zero_le _) (Nat.le_refl _))
  clear bx hH hH1 hb1 hs1 hswap hless hlat hd
  have q1 : ¬ (20 : Int) ≤ d.size := by omega
  have q4 : ¬ (20 : Int) < d.size := by omega
  go_enter L.f15, BodyGt.n15_ntmps ρ
  go_wp2
  refine wp_loop_rounds 1 ?_
  rw [rounds_succ]
  go_wp2_with (go_at_fn (ρ.f 29); (refine (X1.out).mono ?_; rintro e w1 ⟨rfl, hw1⟩; have W1 := Lib.hid hw1; clear hw1; have c0 := BX0.out _ _ W1.out; have c1 := BX1.out _ _ W1.out))
  refine wp_loop_rounds 1 ?_
  rw [rounds_succ]
  go_wp2
  go_end0
  exact ⟨rfl, _, DONE.out _ _ W1.out, RES.out.1, RES.out.2⟩

set_option maxHeartbeats 8000000 in
set_option maxRecDepth 100000 in
theorem stable_at20 (L : LaysGt.n15 P ρ) (enc : α → Value) (lt R : α → α → Bool) (hT : Tot R) (g : Nat) (lb : Array Value) (sf : Nat) (sb : Array Value) (blk off : Nat) (d : Array α) (W : World)
    (eg : ∀ args w, (callFunc g args).run P w = .ok (.enter g args) w) (hless : LessG P g lb enc lt blk off d.size W) (hswap : SwapSwaps P sf sb enc blk off d.size) (hH : Holds enc W blk off d) (hblk : blk < W.heap.size) (hd : d.toList.Nodup) (hlat : Later2 lt R 0 d.size d) (h1 : d.size = 20) :
    Calls P (ρ.f 15) #[.agg #[.func (.func g) #[] lb, .func (.func sf) #[] sb], .int .i64 d.size] W fun e w' => e = .returned (.tuple #[]) ∧ ∃ d', SW enc W blk off d' w' ∧ PermIn 0 d.size d d' ∧ Srt R 0 d.size d' := by
  have mixed := L.mixed; have t0 := L.t0; have a0 := L.a0; have z0 := L.z0; have v0 := L.v0; have t3 := L.t3; have a3 := L.a3; have z3 := L.z3; have v3 := L.v3; have t4 := L.t4; have a4 := L.a4; have z4 := L.z4; have v4 := L.v4; have t26 := L.t26; have a26 := L.a26; have z26 := L.z26; have v26 := L.v26; have t38 := L.t38; have a38 := L.a38; have z38 := L.z38; have v38 := L.v38; have t42 := L.t42; have a42 := L.a42; have z42 := L.z42; have v42 := L.v42; have t47 := L.t47; have a47 := L.a47; have z47 := L.z47; have v47 := L.v47
  have u42 := run_underlying L.t42
  have e29 : ∀ args w, (callFunc (ρ.f 29) args).run P w = .ok (.enter (ρ.f 29) args) w := enters_of L.f29 (by kernel_rfl) rfl
  have e30 : ∀ args w, (callFunc (ρ.f 30) args).run P w = .ok (.enter (ρ.f 30) args) w := enters_of L.f30 (by kernel_rfl) rfl
  have hs1 := (SW.start hH).alloc (.cells #[.func (.func g) #[] lb, .func (.func sf) #[] sb] (ρ.t 42))
  have hH1 := holds_alloc (o := (.cells #[.func (.func g) #[] lb, .func (.func sf) #[] sb] (ρ.t 42))) hH hblk
  have hb1 : blk < (W.alloc (.cells #[.func (.func g) #[] lb, .func (.func sf) #[] sb] (ρ.t 42))).heap.size := by simp; omega
  have bx : ∀ (k : Nat) (v : Value), (W.alloc (.cells #[.func (.func g) #[] lb, .func (.func sf) #[] sb] (ρ.t 42))).cell? ⟨W.heap.size, k, none⟩ = some v → ∀ (dk : Array α) wr, SW enc (W.alloc (.cells #[.func (.func g) #[] lb, .func (.func sf) #[] sb] (ρ.t 42))) blk off dk wr → wr.cell? ⟨W.heap.size, k, none⟩ = some v := fun k v h dk wr hs => (swCell hs (by simp) (by omega)).trans h
  have BX0 := Lib.hid (bx 0 (.func (.func g) #[] lb) (by simp))
  have BX1 := Lib.hid (bx 1 (.func (.func sf) #[] sb) (by simp))
  have S0 := Lib.hid (SW.start hH1)
  have INS : Hid (∀ (dk : Array α) (x y : Nat) (wr : World), dk.size = d.size → SW enc (W.alloc (.cells #[.func (.func g) #[] lb, .func (.func sf) #[] sb] (ρ.t 42))) blk off dk wr → x ≤ y → y ≤ d.size →
      Calls P (ρ.f 29) #[.agg #[.func (.func g) #[] lb, .func (.func sf) #[] sb], .int .i64 x, .int .i64 y] wr fun e w' => e = .returned (.tuple #[]) ∧ SW enc (W.alloc (.cells #[.func (.func g) #[] lb, .func (.func sf) #[] sb] (ρ.t 42))) blk off (insertionSort lt dk x y) w') :=
    fun dk x y wr h1 h2 h3 h4 => (ins_w { L with } enc lt g lb sf sb blk off d W eg hless hswap hH hblk (by omega) dk h1 x y wr (swTrans hs1 h2 hblk h1) h3 (h1 ▸ h4)).mono fun _ _ h => ⟨h.1, swTrans h2 h.2 hb1 (ins_size _ _ _ _)⟩
  have DONE : Hid (∀ (D : Array α) (wr : World), SW enc (W.alloc (.cells #[.func (.func g) #[] lb, .func (.func sf) #[] sb] (ρ.t 42))) blk off D wr → SW enc W blk off D wr) := fun D wr h => swUnalloc h hblk
  have RES := Lib.hid (ins_srt (lt := lt) (d := d) hT (Nat.zero_le d.size) (Nat.le_refl _) (nodup_extract hd 0 d.size) hlat)
  have Z1 : Hid ((insertionSort lt d 0 20).size = d.size) := ins_size _ _ _ _
  have X1 := Lib.hid (INS.out d 0 20 _ rfl S0.out (by omega) (by omega))
  clear bx hH hH1 hb1 hs1 hswap hless hlat hd
  rw [h1] at *
  go_enter L.f15, BodyGt.n15_ntmps ρ
  go_wp2
  refine wp_loop_rounds 2 ?_
  rw [rounds_succ]
  go_wp2_with (go_at_fn (ρ.f 29); (refine (X1.out).mono ?_; rintro e w1 ⟨rfl, hw1⟩; have W1 := Lib.hid hw1; clear hw1; have c0 := BX0.out _ _ W1.out; have c1 := BX1.out _ _ W1.out))
  rw [rounds_succ]
  have X4 := Lib.hid (INS.out _ 20 20 w1 Z1.out W1.out (by omega) (by omega))
  have X5 : Hid (insertionSort lt (insertionSort lt d 0 20) 20 20 = insertionSort lt d 0 20) := insOuter_stop _ _ _ _ _ (by omega)
  go_wp2_with (go_at_fn (ρ.f 29); (refine (X5.out ▸ X4.out).mono ?_; rintro e w2 ⟨rfl, hw2⟩; have W2 := Lib.hid hw2; clear hw2; have c0 := BX0.out _ _ W2.out; have c1 := BX1.out _ _ W2.out))
  refine wp_loop_rounds 1 ?_
  rw [rounds_succ]
  go_wp2
  go_end0
  exact ⟨rfl, _, DONE.out _ _ W2.out, RES.out.1, RES.out.2⟩

theorem stable_40 (L : LaysGt.n15 P ρ) (enc : α → Value) (lt R : α → α → Bool) (hT : Tot R) (g : Nat) (lb : Array Value) (sf : Nat) (sb : Array Value) (blk off : Nat) (d : Array α) (W : World)
    (eg : ∀ args w, (callFunc g args).run P w = .ok (.enter g args) w) (hless : LessG P g lb enc lt blk off d.size W) (hswap : SwapSwaps P sf sb enc blk off d.size) (hH : Holds enc W blk off d) (hblk : blk < W.heap.size) (hd : d.toList.Nodup) (hlat : Later2 lt R 0 d.size d) (h1 : d.size ≤ 40) :
    Calls P (ρ.f 15) #[.agg #[.func (.func g) #[] lb, .func (.func sf) #[] sb], .int .i64 d.size] W fun e w' => e = .returned (.tuple #[]) ∧ ∃ d', SW enc W blk off d' w' ∧ PermIn 0 d.size d d' ∧ Srt R 0 d.size d' := by
  by_cases c1 : d.size < 20
  · exact stable_small L enc lt R hT g lb sf sb blk off d W eg hless hswap hH hblk hd hlat c1
  by_cases c2 : d.size = 20
  · exact stable_at20 L enc lt R hT g lb sf sb blk off d W eg hless hswap hH hblk hd hlat c2
  by_cases c3 : d.size = 40
  · exact stable_at40 L enc lt R hT g lb sf sb blk off d W eg hless hswap hH hblk hd hlat c3
  · exact stable_mid L enc lt R hT g lb sf sb blk off d W eg hless hswap hH hblk hd hlat (by omega) (by omega)
theorem LessG.alloc {g : Nat} {lb : Array Value} {enc : α → Value} {lt : α → α → Bool} {blk off size : Nat} {w : World} (h : LessG P g lb enc lt blk off size w) (hblk : blk < w.heap.size) (o : Obj) : LessG P g lb enc lt blk off size (w.alloc o) :=
  fun dk W hS => h dk W (swUnalloc hS hblk)

/-- sort.SliceStable at 2 to 40 elements, all different, of one cell each. -/
theorem sliceStable_40 (L : LaysGt.n8 P ρ) (t e : TypeId) (i ie : TypeInfo) (hi : P.info? t = some i) (hd : i.desc = .slice e) (hpk : P.packed t = false) (hie : P.info? e = some ie) (ke : Nat) (hke : ∀ w, (Extern.Rtype.kind e).run P w = .ok ke w)
    (hs1 : ie.size = 1) (hagg : ∀ w, (isAgg e).run P w = .ok false w) (enc : α → Value) (h1 : ∀ x, (enc x).oneCell' = true) (lt R : α → α → Bool) (hT : Tot R) (g : Nat) (lb : Array Value)
    (eg : ∀ args w, (callFunc g args).run P w = .ok (.enter g args) w) (blk off c : Nat) (d : Array α) (h2 : 2 ≤ d.size) (h40 : d.size ≤ 40)
    (f : Nat) (hf : P.funcs.findIdx? (·.name == "internal/reflectlite" ++ ".Swapper$" ++ toString (swapperK d.size ie ke)) = some f)
    (gS : Bool) (hx : ∀ args W, (callFunc f args).run P W = ((Extern.ReflectliteSwapper.swap gS args).run P W).andThen fun v w' => .ok (.value v) w')
    (w : World) (hless : LessG P g lb enc lt blk off d.size w) (hH : Holds enc w blk off d) (hblk : blk < w.heap.size) (hnd : d.toList.Nodup) (hlat : Later2 lt R 0 d.size d) :
    Calls P (ρ.f 8) #[.iface t (.slice (some ⟨blk, off, none⟩) d.size c), .func (.func g) #[] lb] w fun e w' =>
      e = .returned (.tuple #[]) ∧ ∃ d', SW enc w blk off d' w' ∧ PermIn 0 d.size d d' ∧ Srt R 0 d.size d' := by
  refine Any.sort_SliceStable_of_stable L t e i ie hi hd hpk hie ke hke _ d.size c (by omega) f hf (.func g) #[] lb w _ ?_
  have hB : sliceBound P e ie ke (some ⟨blk, off, none⟩) d.size c = #[.slice (some ⟨blk, off, none⟩) d.size c, typeHandle P e] := by
    unfold sliceBound; rw [if_neg (swapperK_gt _ _ _ h2)]
  rw [hB]
  unfold stableWorld
  have b1 : blk < (w.alloc (.cells #[.slice (some ⟨blk, off, none⟩) d.size c] t)).heap.size := by simp; omega
  refine (stable_40 (P := P) (ρ := ρ) { L with } enc lt R hT g lb f _ blk off d _ eg ((hless.alloc hblk _).alloc b1 _) (swapSwaps_of_literal gS f hx e ie hie hs1 hagg enc h1 blk off d.size c)
    (holds_alloc (holds_alloc hH hblk) b1) (by simp; omega) hnd hlat h40).mono ?_
  rintro e w' ⟨rfl, d', h3, h4, h5⟩
  exact ⟨rfl, d', swUnalloc (swUnalloc h3 b1) hblk, h4, h5⟩
end
end Go.Proofs.Ytjigkogopmebeaa
