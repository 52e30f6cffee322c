/- Contracts: the drills that train most in a time (the reference). -/
import Derived.Test.YtnjmjopbeojfoaaDr5
import Derived.Test.YtnjmjopbeojfoaaFw
import Derived.Test.YtnjmjopbeojfoaaOw
import Derived.Test.YtnjmjopbeojfoaaAq
import Derived.Test.YtnjmjopbeojfoaaMk
import Derived.Test.YtnjmjopbeojfoaaDr8
import Derived.Deep.DeepCutAuto
import Derived.IntWalk
import Derived.Test.YtnjmjopbeojfoaaMp
import Derived.Test.YtnjmjopbeojfoaaAps
namespace Go.Proofs.Ytnjmjopbeojfoaa
open Go.RowKit Go.BigFrame
attribute [local go_sem] sub_cell sub_frozen drewN_setCell

theorem gb_trans {w a b : World} {row : Option Nat} (h : w.grownBy a row) (h' : a.grownBy b row) : w.grownBy b row :=
  ⟨h'.os.trans h.os, h'.tape.trans h.tape, h'.output.trans h.output, Nat.le_trans h.size h'.size, fun k hk hne => (h'.block k (Nat.lt_of_lt_of_le hk h.size) hne).trans (h.block k hk hne)⟩
/-- The cells of the search's struct. -/
def wC (A : Option Addr) (n c : Nat) (s : ByteArray) (D : Option Addr) (q e : Nat) (lim : Int) (v : Value) (cov mi : Int) : Nat → Value
  | 0 => .slice A n c
  | 1 => .string s
  | 2 => .slice D q e
  | 3 => .int .i64 lim
  | 4 => v
  | 5 => .int .i64 cov
  | 6 => .int .i64 mi
  | _ => undef
/-- The search's struct stands in block b, in state st. -/
def WB (A : Option Addr) (n c : Nat) (s : ByteArray) (D : Option Addr) (q e : Nat) (lim : Int) (b : Nat) (w : World) (st : TBest) : Prop :=
  ∃ v, w.rowIs b 80 7 (wC A n c s D q e lim v st.2.1 st.2.2) ∧ w.ownsRow (b + 1) 2 1 v st.1.length (st.1.map (Value.int .i64))
section
variable {A : Option Addr} {n c : Nat} {s : ByteArray} {D : Option Addr} {q e : Nat} {lim : Int} {b : Nat} {w w' : World} {st : TBest}
theorem WB.later (h : WB A n c s D q e lim b w st) (hb : Below w.heap.size w w') : WB A n c s D q e lim b w' st := by
  obtain ⟨v, h1, h2⟩ := h
  exact ⟨v, h1.of_block (hb.block b h1.lt), own_below h2 hb⟩
theorem WB.put {v v' : Value} {z : List Int} {k : Nat} {x y : Int} (h1 : w.rowIs b 80 7 (wC A n c s D q e lim v x y)) (hz : z.length = k) (ho : w.ownsRow (b + 1) 2 1 v' k (z.map (Value.int .i64))) (cv mi : Int) :
    WB A n c s D q e lim b (((w.setCell ⟨b, 4, none⟩ v').setCell ⟨b, 5, none⟩ (.int .i64 cv)).setCell ⟨b, 6, none⟩ (.int .i64 mi)) (z, cv, mi) := by
  subst hz
  refine ⟨v', ?_, ?_⟩
  · refine (((h1.set _ _).set _ _).set _ _).congr fun i hi => ?_
    match i, hi with
    | 0, _ => rfl
    | 1, _ => rfl
    | 2, _ => rfl
    | 3, _ => rfl
    | 4, _ => rfl
    | 5, _ => rfl
    | 6, _ => rfl
  · have hg : w.grownBy (((w.setCell ⟨b, 4, none⟩ v').setCell ⟨b, 5, none⟩ (.int .i64 cv)).setCell ⟨b, 6, none⟩ (.int .i64 mi)) (some b) := only_setCell (only_setCell (only_setCell (grown_refl w _) _ _) _ _) _ _
    exact own_mark ho hg (own_ne_old ho (by omega))
end
/-- What the walk leaves. -/
def WalkPost (A : Option Addr) (n c : Nat) (s : ByteArray) (D : Option Addr) (q e : Nat) (lim : Int) (b : Nat) (st : TBest) (w : World) (r : Ending) (w' : World) : Prop :=
  r = .returned (.tuple #[]) ∧ WB A n c s D q e lim b w' st ∧ w.grownBy w' (some b)
/-- What it asks. -/
structure WalkPre (A : Option Addr) (n : Nat) (l : List TDrill) (D : Option Addr) (q : Nat) (cs : List Int) (b : Nat) (S : Option Addr) (k d : Nat) (z : List Int) (w : World) : Prop where
  list : Sl drillC w b 3 A n l
  counts : Sl ic w b 1 D q cs
  row : w.ownsRow (b + 1) 2 1 (.slice S k d) k (z.map (Value.int .i64))
  rise : Rsg n 0 z
theorem WalkPre.kept {A : Option Addr} {n : Nat} {l : List TDrill} {D : Option Addr} {q : Nat} {cs : List Int} {b : Nat} {S : Option Addr} {k d : Nat} {z : List Int} {w w' : World} (h : WalkPre A n l D q cs b S k d z w) (hb : b < w.heap.size) (hg : w.grownBy w' (some b)) : WalkPre A n l D q cs b S k d z w' := by
  have hB : Below b w w' := ⟨hg.os, hg.tape, hg.output, hg.size, fun i hi => hg.block i (by omega) (by simp; omega)⟩
  exact ⟨h.list.below hB, h.counts.below hB, own_mark h.row hg (own_ne_old h.row (by omega)), h.rise⟩
theorem loOf_bd {n : Nat} {z : List Int} (h : Rsg n 0 z) : 0 ≤ loOf z ∧ loOf z ≤ n := by
  unfold loOf
  cases g : z.getLast? with
  | none => simp
  | some x =>
    have := Rsg_mem h x (List.mem_of_getLast? g)
    simp only
    omega
theorem loOf_at {z : List Int} {k : Nat} {x : Int} (hk : z.length = k + 1) (hx : z[k]? = some x) : loOf z = x + 1 := by
  have : z.getLast? = some x := by rw [List.getLast?_eq_getElem?, hk]; exact hx
  simp [loOf, this]
theorem Rsg_snoc2 {n : Int} : ∀ {lo : Int} {t : List Int} {x : Int}, Rsg n lo t → (∀ y ∈ t, y < x) → lo ≤ x → x < n → Rsg n lo (t ++ [x])
  | _, [], x, _, _, h, h' => ⟨h, h', trivial⟩
  | lo, y :: t, x, h, hy, _, h' => ⟨h.1, h.2.1, Rsg_snoc2 h.2.2 (fun z hz => hy z (by simp [hz])) (by have := hy y (by simp); omega) h'⟩
theorem Rsg_lt_lo {n : Int} : ∀ {lo : Int} {t : List Int}, Rsg n lo t → ∀ y ∈ t, ∀ x, loOf t ≤ x → y < x := by
  intro lo t
  induction t generalizing lo with
  | nil => intro _ y hy; cases hy
  | cons a t ih =>
    intro h y hy x hx
    cases t with
    | nil =>
      rw [List.mem_singleton.1 hy]
      simp [loOf] at hx
      omega
    | cons b t =>
      have e : loOf (a :: b :: t) = loOf (b :: t) := by simp [loOf]
      rw [e] at hx
      rcases List.mem_cons.1 hy with rfl | hy
      · have h1 := ih h.2.2 b (by simp) x hx
        have := h.2.2.1
        omega
      · exact ih h.2.2 y hy x hx
theorem minS_app (l : List TDrill) (a b : List Int) : minS l (a ++ b) = minS l a + minS l b := by simp [minS]
theorem minS_snoc (l : List TDrill) (z : List Int) (x : Int) : minS l (z ++ [x]) = minS l z + miAt l x := by simp [minS]
theorem covN_bd {l : List TDrill} {z : List Int} {ls : List UInt8} {cs : List Int} (h : CntIn cs) (k : Nat) : 0 ≤ covN l z ls cs k ∧ covN l z ls cs k ≤ 1000 * k := by
  induction k with
  | zero => simp [covN]
  | succ k ih =>
    simp only [covN]
    split
    · rename_i c v _ h2
      have h3 := h v (List.mem_of_getElem? h2)
      split <;> omega
    · omega
theorem iterS_succ {α : Type} (g : Nat → α → α) (k : Nat) (st : α) : iterS g (k + 1) st = g k (iterS g k st) := rfl
theorem updS_yes {cov mi : List Int → Int} {st : TBest} {z : List Int} (h : st.2.1 < cov z ∨ cov z = st.2.1 ∧ mi z < st.2.2) : updS cov mi st z = (z, cov z, mi z) := if_pos h
theorem updS_no {cov mi : List Int → Int} {st : TBest} {z : List Int} (h : ¬ (st.2.1 < cov z ∨ cov z = st.2.1 ∧ mi z < st.2.2)) : updS cov mi st z = st := if_neg h
theorem Sl.lt_ {α : Type} {f : α → List Value} {w : World} {B sz n k p o : Nat} {l : List α} (h : Sl f w B sz (some ⟨p, o, none⟩) n l) (_h0 : some (⟨p, o, none⟩ : Addr) = some ⟨p, o, none⟩) (hk : k < n) : p < B := by
  obtain ⟨b, o', x, hA, hb, _⟩ := h.at_ hk
  simp only [Option.some.injEq, Addr.mk.injEq] at hA
  omega
theorem rd_one {w : World} {B g : Nat} {v : Value} (h : w.cell? ⟨g, 0, none⟩ = some v) (hg : g < B) : Rd w B 1 (some ⟨g, 0, none⟩) 1 [v] := by
  refine ⟨rfl, .inr ⟨g, 0, rfl, hg, fun i u hu => ?_⟩⟩
  match i, hu with
  | 0, hu => simp at hu; subst hu; exact h
theorem cell_new {w w1 : World} {v : Value} {e : TypeId} (hb : Below (w.alloc (.cells #[v] e)).drew.heap.size (w.alloc (.cells #[v] e)).drew w1) : w1.cell? ⟨w.heap.size, 0, none⟩ = some v :=
  (hb.cell (p := ⟨w.heap.size, 0, none⟩) (by show w.heap.size < (w.alloc (.cells #[v] e)).heap.size; simp)).trans (by show (w.alloc (.cells #[v] e)).cell? ⟨w.heap.size, 0, none⟩ = some v; simp [go_sem])
/-- One more drill is taken into the set. -/
theorem WalkPre.next {A : Option Addr} {n : Nat} {l : List TDrill} {D : Option Addr} {q : Nat} {cs : List Int} {b : Nat} {S S' : Option Addr} {k k' d d' : Nat} {z z' : List Int} {w w' : World} (h : WalkPre A n l D q cs b S k d z w) (hb : Below w.heap.size w w') (hbw : b < w.heap.size)
    (ho : w'.ownsRow (b + 1) 2 1 (.slice S' k' d') k' (z'.map (Value.int .i64))) (hr : Rsg n 0 z') : WalkPre A n l D q cs b S' k' d' z' w' :=
  ⟨h.list.below (hb.mono (Nat.le_of_lt hbw)), h.counts.below (hb.mono (Nat.le_of_lt hbw)), ho, hr⟩
theorem walk_keep {A : Option Addr} {n c : Nat} {s : ByteArray} {D : Option Addr} {q e : Nat} {lim : Int} {b : Nat} {w w' : World} {st : TBest} {p j : Nat} {v : Value} (h : WB A n c s D q e lim b w' st) (hg : w.grownBy w' (some b)) (hc : w.cell? ⟨p, j, none⟩ = some v) (hp : p < b) :
    w'.cell? ⟨b, 0, none⟩ = some (.slice A n c) ∧ w'.cell? ⟨p, j, none⟩ = some v := by
  obtain ⟨v', hrow, _⟩ := h
  exact ⟨hrow.cell (show 0 < 7 by omega), (cell_grown hg (World.block_lt_of_cell? _ _ hc) (by simp; omega)).trans hc⟩
set_option maxRecDepth 100000 in
set_option maxHeartbeats 40000000 in
/-- One set, and those that begin with it; those are met by what is known of them. -/
theorem c_walk1 (A : Option Addr) (n c : Nat) (l : List TDrill) (s : ByteArray) (D : Option Addr) (q e : Nat) (cs : List Int) (lim : Int) (b : Nat) (hsz : DrSz l) (hok : drsB l = true) (hcs : CntIn cs) (hq : s.size = q) (hq2 : q ≤ 1000) (hn : n ≤ 10)
    (g : Nat → TBest → TBest) (S : Option Addr) (k d : Nat) (z : List Int) (st : TBest) (w : World) (hp : WalkPre A n l D q cs b S k d z w) (hw : WB A n c s D q e lim b w st)
    (hch : ∀ (j : Nat), j < ((n : Int) - loOf z).toNat → ∀ (S' : Option Addr) (k' d' : Nat) (st' : TBest) (W : World), WalkPre A n l D q cs b S' k' d' (z ++ [loOf z + (j : Int)]) W → WB A n c s D q e lim b W st' →
      Calls Try.prog 65 #[.pointer (some ⟨b, 0, none⟩), .slice S' k' d', .int .i64 (minS l (z ++ [loOf z + (j : Int)]))] W (WalkPost A n c s D q e lim b (g j st') W)) :
    Calls Try.prog 65 #[.pointer (some ⟨b, 0, none⟩), .slice S k d, .int .i64 (minS l z)] w
      (WalkPost A n c s D q e lim b (if lim < minS l z then st else iterS g ((n : Int) - loOf z).toNat (updS (fun z => covS l z (bl s) cs) (minS l) st z)) w) := by
  obtain ⟨v, hrow, hown⟩ := hw
  have hlen : z.length = k := by have := hp.row.1; simpa using this
  obtain ⟨lo0, lo1⟩ := loOf_bd hp.rise
  obtain ⟨lo, hlo⟩ : ∃ lo : Nat, loOf z = (lo : Int) := ⟨(loOf z).toNat, by omega⟩
  rw [hlo] at hch lo1 ⊢
  have hlon : lo ≤ n := by omega
  have htn : ((n : Int) - (lo : Int)).toNat = n - lo := by omega
  rw [htn] at hch ⊢
  have HLO := Lib.hid hlo
  clear hlo lo0 lo1 htn
  have hzn := Rsg_len hp.rise (by omega)
  rw [hlen] at hzn
  have hmn := minS_bd hok z
  obtain ⟨mz, hmz⟩ : ∃ mz, minS l z = mz := ⟨_, rfl⟩
  rw [hmz] at hmn ⊢
  have hm0 := hmn.1
  have hm1 : mz ≤ 1000000 := by omega
  have hb := hrow.lt
  have c0 := hrow.cell (show 0 < 7 by omega)
  have c1 := hrow.cell (show 1 < 7 by omega)
  have c2 := hrow.cell (show 2 < 7 by omega)
  have c3 := hrow.cell (show 3 < 7 by omega)
  have c4 := hrow.cell (show 4 < 7 by omega)
  have c5 := hrow.cell (show 5 < 7 by omega)
  have c6 := hrow.cell (show 6 < 7 by omega)
  have f4 := hrow.frozen 4
  have f5 := hrow.frozen 5
  have f6 := hrow.frozen 6
  simp only [wC] at c0 c1 c2 c3 c4 c5 c6
  have HMZ := Lib.hid hmz
  have HP := Lib.hid hp
  have HROW := Lib.hid hrow
  have HOWN := Lib.hid hown
  have HL := Lib.hid hlen
  have HCH := Lib.hid hch
  by_cases hlim : lim < mz
  · rw [if_pos hlim]
    clear hrow hown hp hch hmz hlen hmn
    go_enter Try.func65, Try.ntmps65
    go_wp2_with fail
    go_returns
    exact ⟨rfl, ⟨v, HROW.out, HOWN.out⟩, grown_refl w _⟩
  rw [if_neg hlim]
  obtain ⟨cz, hcz⟩ : ∃ cz, covS l z (bl s) cs = cz := ⟨_, rfl⟩
  have hcb := covN_bd (l := l) (z := z) (ls := bl s) hcs (bl s).length
  have hcb : 0 ≤ cz ∧ cz ≤ 1000000 := by rw [← hcz]; exact ⟨hcb.1, by have := hcb.2; rw [bl_len] at this; unfold covS; rw [bl_len]; omega⟩
  have hcb0 := hcb.1
  have hcb1 := hcb.2
  have HC := Lib.hid (fun (W : World) (hW : Below w.heap.size w W) => hcz ▸ c_l21Covered A S D n c k d q e l z s cs W ((hp.list.more (Nat.le_of_lt hb)).later hW) ((zs_ownN hp.row).later hW) ((hp.counts.more (Nat.le_of_lt hb)).later hW) hsz (fun x hx => Rsg_mem hp.rise x hx) hcs hq (by omega) (by omega) (by omega))
  have HCZ := Lib.hid hcz
  clear hrow hown hp hch hmz hlen hmn hcz hcb hq
  go_enter Try.func65, Try.ntmps65
  go_wp2_with fail
  go_quiet ((go_at_call 60; exact q0 (HC.out _ (below_drewN (Below.refl _ _) _))))
  obtain ⟨ub, hub⟩ : ∃ ub, decide (st.2.1 < cz ∨ cz = st.2.1 ∧ mz < st.2.2) = ub := ⟨_, rfl⟩
  have HUB := Lib.hid hub
  clear hub
  go_upto_region 2 with (fail)
  go_cut [50] (fun s50 wx => s50 = .bool ub ∧ w.drewN nq = wx)
  case first =>
    by_cases h1 : st.2.1 < cz
    · have e1 : Hid (ub = true) := by show _ = _; rw [← HUB.out]; exact decide_eq_true (.inl h1)
      go_wp2_with fail
      go_meet
      case rel => exact ⟨by rw [e1.out], rfl⟩
    · by_cases h2 : cz = st.2.1
      · have h2' : (cz == st.2.1) = true := by rw [h2]; exact beq_self_eq_true _
        by_cases h3 : mz < st.2.2
        · have e1 : Hid (ub = true) := by show _ = _; rw [← HUB.out]; exact decide_eq_true (.inr ⟨h2, h3⟩)
          clear h2
          go_wp2_with fail
          go_meet
          case rel => exact ⟨by rw [e1.out], rfl⟩
        · have e1 : Hid (ub = false) := by show _ = _; rw [← HUB.out]; exact decide_eq_false (fun h => h.elim h1 (fun h => h3 h.2))
          clear h2
          go_wp2_with fail
          go_meet
          case rel => exact ⟨by rw [e1.out], rfl⟩
      · have h2' : (cz == st.2.1) = false := by rw [beq_eq_false_iff_ne]; exact h2
        have e1 : Hid (ub = false) := by show _ = _; rw [← HUB.out]; exact decide_eq_false (fun h => h.elim h1 (fun h => h2 h.1))
        go_wp2_with fail
        go_meet
        case rel => exact ⟨by rw [e1.out], rfl⟩
  case rest =>
    obtain ⟨rfl, rfl⟩ := hcut
    go_upto_if 50 with (fail)
    go_cut [] (fun wx => WB A n c s D q e lim b wx (updS (fun z => covS l z (bl s) cs) (minS l) st z) ∧ w.grownBy wx (some b))
    case first =>
      cases ub
      · have HU : Hid (updS (fun z => covS l z (bl s) cs) (minS l) st z = st) := updS_no (fun h => of_decide_eq_false HUB.out (by rw [HCZ.out, HMZ.out] at h; exact h))
        go_wp2_with fail
        go_meet
        case rel => exact ⟨by rw [HU.out]; exact WB.later ⟨v, HROW.out, HOWN.out⟩ (below_drewN (Below.refl _ _) _), gb_below (grown_refl w _) (below_drewN (Below.refl _ _) _)⟩
      · have HU : Hid (updS (fun z => covS l z (bl s) cs) (minS l) st z = (z, cz, mz)) := by
          show _ = _
          rw [updS_yes (by rw [HCZ.out, HMZ.out]; exact of_decide_eq_true HUB.out), HCZ.out, HMZ.out]
        go_wp2_with fail
        go_meet
        case rel => exact ⟨by rw [HU.out]; exact WB.later (WB.put HROW.out HL.out HP.out.row cz mz) (below_drewN (Below.refl _ _) _), gb_below (only_setCell (only_setCell (only_setCell (grown_refl w _) _ _) _ _) _ _) (below_drewN (Below.refl _ _) _)⟩
    case rest =>
      obtain ⟨hWB, hG⟩ := hcut
      have hPc := HP.out.kept hb hG
      have hbc : b < wc.heap.size := Nat.lt_of_lt_of_le hb hG.size
      have HPC := Lib.hid hPc
      have HWBc := Lib.hid hWB
      have HGc := Lib.hid hG
      clear hWB hG
      go_upto_if 65 with (fail)
      go_cut [7] (fun s7 wx => s7 = .int .i64 (lo : Int) ∧ wc = wx)
      case first =>
        rcases Nat.eq_zero_or_pos k with h0 | h0
        · subst h0
          have e7 : Hid (lo = 0) := by
            show _ = _
            have h1 := HLO.out
            rw [List.eq_nil_of_length_eq_zero HL.out] at h1
            simp [loOf] at h1
            omega
          clear hPc
          go_wp2_with fail
          go_meet
          case rel => exact ⟨by rw [e7.out]; rfl, rfl⟩
        · obtain ⟨k', rfl⟩ : ∃ k', k = k' + 1 := ⟨k - 1, by omega⟩
          obtain ⟨p, o, x, rfl, hp1, hp2, hx, c7⟩ := z_at (zs_ownN hPc.row) (Below.refl _ _) (show k' < k' + 1 by omega)
          have e7 : Hid ((lo : Int) = x + 1) := HLO.out.symm.trans (loOf_at HL.out hx)
          have hxb := Rsg_mem HPC.out.rise x (List.mem_of_getElem? hx)
          have hx0 := hxb.1
          have hx1 : x ≤ 1000 := by omega
          have i0 : (0 : Int) < (k' : Int) + 1 := by omega
          clear hPc hx hxb h0
          go_wp2_with fail
          go_meet
          case rel => exact ⟨by rw [e7.out], rfl⟩
      case rest =>
        obtain ⟨rfl, rfl⟩ := hcut
        clear hPc
        go_wp2_with fail
        go_loopw [8] (fun i wr => ∃ x : Nat, lo ≤ x ∧ x ≤ n ∧ i = .int .i64 (x : Int) ∧ Hid (WB A n c s D q e lim b wr (iterS g (x - lo) (updS (fun z => covS l z (bl s) cs) (minS l) st z))) ∧ w.grownBy wr (some b)) (fun i _ => n - (intOf i).toNat)
        case atStart => exact ⟨lo, Nat.le_refl _, hlon, rfl, by show WB _ _ _ _ _ _ _ _ _ _ _; rw [Nat.sub_self]; exact HWBc.out, HGc.out⟩
        case round =>
          obtain ⟨x, hx0, hx1, rfl, HWB, hG⟩ := hrel
          have hbr : b < wr.heap.size := Nat.lt_of_lt_of_le hb hG.size
          have HPR := Lib.hid (HP.out.kept hb hG)
          obtain ⟨v', hrow', _⟩ := HWB.out
          have g0 := hrow'.cell (show 0 < 7 by omega)
          simp only [wC] at g0
          clear hrow'
          by_cases hlt : x < n
          · obtain ⟨p, o, nm, ls, mi, rfl, hpr, hpb, hx, d0, d1, d2⟩ := drill_at (HPR.out.list.more (Nat.le_of_lt hbr)) (Below.refl _ _) hlt
            have hpb2 : p < b := HPR.out.list.lt_ rfl hlt
            have hmi := miAt_bd hok (x : Int)
            have hma := miAt_at hx
            rw [hma] at hmi
            have hmi0 := hmi.1
            have hmi1 := hmi.2
            have hsum : IntKind.i64.wrap (mz + mi) = mz + mi := IntWalk.i64_in _ (by omega)
            have HRS : Hid (Rsg n 0 (z ++ [(x : Int)])) := Rsg_snoc2 HP.out.rise (fun y hy => Rsg_lt_lo HP.out.rise y hy x (by rw [HLO.out]; omega)) (by omega) (by omega)
            have HI : Hid (∀ (S' : Option Addr) (k' d' : Nat) (W : World), WalkPre (some ⟨p, o, none⟩) n l D q cs b S' k' d' (z ++ [(x : Int)]) W → WB (some ⟨p, o, none⟩) n c s D q e lim b W (iterS g (x - lo) (updS (fun z => covS l z (bl s) cs) (minS l) st z)) →
                Calls Try.prog 65 #[.pointer (some ⟨b, 0, none⟩), .slice S' k' d', .int .i64 (mz + mi)] W (WalkPost (some ⟨p, o, none⟩) n c s D q e lim b (g (x - lo) (iterS g (x - lo) (updS (fun z => covS l z (bl s) cs) (minS l) st z))) W)) := fun S' k' d' W h1 h2 => by
              have h3 := HCH.out (x - lo) (by omega) S' k' d' _ W (by rw [show (lo : Int) + ((x - lo : Nat) : Int) = x by omega]; exact h1) h2
              rw [show (lo : Int) + ((x - lo : Nat) : Int) = x by omega, minS_snoc, hma, HMZ.out] at h3
              exact h3
            have hI0 : (0 : Int) ≤ (x : Int) := by omega
            have hI1 : (x : Int) < n := by omega
            have hI2 : ((x : Int)).toNat = x := by omega
            clear hx hma hmi d0 d1
            go_wp2_with fail
            go_region_held3 (fun w' => w'.cell? ⟨b, 0, none⟩ = some (.slice (some ⟨p, o, none⟩) n c) ∧ w'.cell? ⟨p, o + x * 3 + 2, none⟩ = some (.int .i64 mi)) (first | go_keep | exact S3 | exact S2 | exact S1) (first | (go_at_call 74; refine (c_l00Own S k d z _ (zs_ownN (by first | exact own_drewA HPR.out.row | exact own_drewA (HPR.out.row.alloc _))) (by omega)).mono ?_; intro r_ w1 h_; obtain ⟨A1, c1, rfl, o1, b1⟩ := ZsPost.elim h_ HL.out; have k1 : Below wr.heap.size wr w1 := later b1 (by (repeat' (first | (with_reducible exact Below.refl _ _) | (with_reducible assumption) | (with_reducible refine below_drewN ?_ _) | (with_reducible refine Below.drew ?_) | (with_reducible refine Below.alloc ?_ ?_ _) | (with_reducible refine Below.setCell ?_ ?_ _) | go_size))); have k1z := k1.size; have S1 := And.intro ((k1.cell (p := ⟨b, 0, none⟩) hbr).trans g0) ((k1.cell (p := ⟨p, o + x * 3 + 2, none⟩) hpr).trans d2); have O1 : Hid (w1.ownsRow wr.heap.size 2 1 (.slice A1 k c1) k (z.map (Value.int .i64))) := (by first | exact o1 | exact own_base o1 (by simp)); (try have HBX := Lib.hid (cell_new b1)); clear h_ o1 b1) | (refine stepApp (by rfl) (.tmp 85) (.tmp 87) _ (by rfl) wr.heap.size 2 _ 1 8 Try.underlying22 info_int64 (by rfl) (by decide) _ _ (by rfl) (by simp [Value.oneCell']) _ _ _ (by rfl) O1.out (by rfl) (by omega) (by decide) (by omega) ?_; intro v2 w2 hown2 hb2 hg2; obtain ⟨A2, c2, rfl⟩ := own_slice hown2; have k2 : Below wr.heap.size wr w2 := k1.trans hb2; have k2z := k2.size; have S2 := And.intro ((k2.cell (p := ⟨b, 0, none⟩) hbr).trans g0) ((k2.cell (p := ⟨p, o + x * 3 + 2, none⟩) hpr).trans d2); have O2 := Lib.hid (own_base (base' := b + 1) hown2 (by omega)); clear hown2 hb2 hg2) | (refine apStep (by rfl) (.tmp 85) (.tmp 87) _ (by rfl) wr.heap.size 2 _ 8 Try.underlying22 info_int64 (by rfl) _ _ k (z.map (Value.int .i64)) (by rfl) O1.out w1.heap.size _ 1 1 [.int .i64 (x : Int)] (by rfl) (rd_one HBX.out (World.block_lt_of_cell? _ _ HBX.out)) (by simp [Value.oneCell']) (by omega) (by decide) (by omega) ?_; intro v2 w2 hown2 hb2 hg2 _; obtain ⟨A2, c2, rfl⟩ := own_slice hown2; have k2 : Below wr.heap.size wr w2 := k1.trans hb2; have k2z := k2.size; have S2 := And.intro ((k2.cell (p := ⟨b, 0, none⟩) hbr).trans g0) ((k2.cell (p := ⟨p, o + x * 3 + 2, none⟩) hpr).trans d2); have O2 := Lib.hid (own_base (base' := b + 1) hown2 (by omega)); clear hown2 hb2 hg2) | (go_at_call 65; refine (HI.out A2 (k + 1) c2 w2 (HPR.out.next k2 hbr (by rw [map_snocI]; exact O2.out) HRS.out) (HWB.out.later k2)).mono ?_; rintro r_ w3 ⟨rfl, hWB3, hG3⟩; have HW3 := Lib.hid hWB3; have G3 := Lib.hid (gb_trans (gb_below hG k2) hG3); have S3 := walk_keep hWB3 hG3 S2.2 hpb2; clear hWB3 hG3))
            all_goals
              go_wp2_with fail
              go_roundw
              case rel => exact ⟨x + 1, by omega, by omega, by go_num, by show WB _ _ _ _ _ _ _ _ _ _ _; rw [show x + 1 - lo = x - lo + 1 by omega, iterS_succ]; exact HW3.out, G3.out⟩
              case measure => simp [intOf]; omega
          · obtain rfl : x = n := by omega
            go_wp2_with fail
            go_returns
            exact ⟨rfl, HWB.out, hG⟩
end Go.Proofs.Ytnjmjopbeojfoaa
