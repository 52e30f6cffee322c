/- Contracts: the drills that train most in a time (the reference). -/
import Derived.Test.YtnjmjopbeojfoaaDr9
namespace Go.Proofs.Ytnjmjopbeojfoaa
open Go.RowKit Go.BigFrame
attribute [local go_sem] sub_cell sub_frozen drewN_setCell

/-- What BestDrills says. -/
def bdC (l : List TDrill) (s : List UInt8) (cs : List Int) (lim : Int) : Int := if covOk l s cs then (if betw lim 0 6000 then 0 else 2) else 1
def bdS (l : List TDrill) (s : List UInt8) (cs : List Int) (lim : Int) : TBest := dfs (fun z => covS l z s cs) (minS l) lim l.length l.length [] ([], -1, 0)
def bdZ (l : List TDrill) (s : List UInt8) (cs : List Int) (lim : Int) : List Int := if bdC l s cs lim = 0 then (bdS l s cs lim).1 else []
def bdV (l : List TDrill) (s : List UInt8) (cs : List Int) (lim : Int) : Int := if bdC l s cs lim = 0 then (bdS l s cs lim).2.1 else 0
theorem bd_bad {l : List TDrill} {s : List UInt8} {cs : List Int} {lim : Int} (h : drsB l = false ∨ needB s cs = false) : bdZ l s cs lim = [] ∧ bdV l s cs lim = 0 ∧ bdC l s cs lim = 1 := by
  have e : covOk l s cs = false := by unfold covOk; rcases h with h | h <;> rw [h] <;> simp
  simp [bdZ, bdV, bdC, e]
theorem bd_rng {l : List TDrill} {s : List UInt8} {cs : List Int} {lim : Int} (h : drsB l = true) (h1 : needB s cs = true) (h2 : betw lim 0 6000 = false) : bdZ l s cs lim = [] ∧ bdV l s cs lim = 0 ∧ bdC l s cs lim = 2 := by
  simp [bdZ, bdV, bdC, covOk, h, h1, h2]
theorem bd_ok {l : List TDrill} {s : List UInt8} {cs : List Int} {lim : Int} (h : drsB l = true) (h1 : needB s cs = true) (h2 : betw lim 0 6000 = true) : bdZ l s cs lim = (bdS l s cs lim).1 ∧ bdV l s cs lim = (bdS l s cs lim).2.1 ∧ bdC l s cs lim = 0 := by
  simp [bdZ, bdV, bdC, covOk, h, h1, h2]
/-- Fresh numbers, a number and a code. -/
def BestPost (zs : List Int) (v code : Int) (w : World) (r : Ending) (w' : World) : Prop :=
  ∃ A c, r = .returned (.tuple #[.slice A zs.length c, .int .i64 v, .int .i64 code]) ∧ w'.ownsRow w.heap.size 2 1 (.slice A zs.length c) zs.length (zs.map (Value.int .i64)) ∧ Below w.heap.size w w'
theorem BestPost.mk_ {zs : List Int} {v code : Int} {w w' : World} {u : Value} {n : Nat} (hn : zs.length = n) (hown : w'.ownsRow w.heap.size 2 1 u n (zs.map (Value.int .i64))) (hb : Below w.heap.size w w') : BestPost zs v code w (.returned (.tuple #[u, .int .i64 v, .int .i64 code])) w' := by
  subst hn
  obtain ⟨A, c, rfl⟩ := own_slice hown
  exact ⟨A, c, rfl, hown, hb⟩
theorem BestPost.err {code : Int} {w w' : World} (hb : Below w.heap.size w w') : BestPost [] 0 code w (.returned (.tuple #[.slice none 0 0, .int .i64 0, .int .i64 code])) w' :=
  ⟨none, 0, rfl, ⟨rfl, .inl ⟨rfl, rfl⟩⟩, hb⟩
theorem sumZ_nonneg {l : List TDrill} (h : drsB l = true) (s t : List Int) : minS l s ≤ minS l (s ++ t) := by
  rw [minS_app]
  have := (minS_bd h t).1
  omega
theorem bdS_best {l : List TDrill} {s : List UInt8} {cs : List Int} {lim : Int} (h : drsB l = true) (h1 : CntIn cs) (h2 : 0 ≤ lim) : bestI (fun z => covS l z s cs) (minS l) lim l.length (2 ^ l.length) = bdS l s cs lim :=
  dfs_eq _ (fun z => (covN_bd h1 _).1) (sumZ_nonneg h) (by simpa [minS] using h2)
theorem bestI_len (cov mi : List Int → Int) (lim : Int) (n k : Nat) : (bestI cov mi lim n k).1.length ≤ n := by
  induction k with
  | zero => simp [bestI]
  | succ k ih =>
    simp only [bestI]
    split
    · exact ih
    · unfold updI
      split
      · have := Rsg_len (chsN_rsg k n) (by omega)
        show (chsN k n).length ≤ n
        omega
      · exact ih
theorem bdZ_len (l : List TDrill) (s : List UInt8) (cs : List Int) (lim : Int) : (bdZ l s cs lim).length ≤ 40 := by
  cases h : drsB l
  · rw [(bd_bad (.inl h)).1]; simp
  cases h1 : needB s cs
  · rw [(bd_bad (.inr h1)).1]; simp
  cases h2 : betw lim 0 6000
  · rw [(bd_rng h h1 h2).1]; simp
  · rw [(bd_ok h h1 h2).1]
    have hc : CntIn cs := by
      simp only [needB, Bool.and_eq_true, List.all_eq_true] at h1
      exact fun x hx => betw_true (h1.1 x hx)
    rw [← bdS_best h hc (betw_true h2).1]
    have := bestI_len (fun z => covS l z s cs) (minS l) lim l.length (2 ^ l.length)
    have := (drs_ok h).1
    omega
theorem c_walk (A : Option Addr) (n c : Nat) (l : List TDrill) (s : ByteArray) (D : Option Addr) (q e : Nat) (cs : List Int) (lim : Int) (b : Nat) (hsz : DrSz l) (hok : drsB l = true) (hcs : CntIn cs) (hq : s.size = q) (hq2 : q ≤ 1000) (hn : n ≤ 10) : ∀ (f : Nat)
    (S : Option Addr) (k d : Nat) (z : List Int) (st : TBest) (w : World), ((n : Int) - loOf z).toNat ≤ f → WalkPre A n l D q cs b S k d z w → WB A n c s D q e lim b w st →
    Calls Try.prog 65 #[.pointer (some ⟨b, 0, none⟩), .slice S k d, .int .i64 (minS l z)] w (WalkPost A n c s D q e lim b (dfs (fun z => covS l z (bl s) cs) (minS l) lim n f z st) w) := by
  intro f
  induction f with
  | zero =>
    intro S k d z st w hf hp hw
    have h := c_walk1 A n c l s D q e cs lim b hsz hok hcs hq hq2 hn (fun _ st => st) S k d z st w hp hw (fun j hj => by omega)
    rw [show ((n : Int) - loOf z).toNat = 0 by omega] at h
    exact h
  | succ f ih =>
    intro S k d z st w hf hp hw
    exact c_walk1 A n c l s D q e cs lim b hsz hok hcs hq hq2 hn (fun j st => dfs (fun z => covS l z (bl s) cs) (minS l) lim n f (z ++ [loOf z + (j : Int)]) st) S k d z st w hp hw
      (fun j hj S' k' d' st' W h1 h2 => ih S' k' d' _ st' W (by rw [loOf_snoc]; omega) h1 h2)
theorem bd_pre {A D : Option Addr} {n q nd : Nat} {l : List TDrill} {cs : List Int} {w1 : World} {o : Obj} (ha : Sl drillC w1 w1.heap.size 3 A n l) (hd : Zs w1 D q cs) :
    WalkPre A n l D q cs w1.heap.size (some ⟨w1.heap.size + 1, 0, none⟩) 0 0 [] (((w1.drewN nd).alloc o).alloc (.cells #[] 2)) := by
  have hb : Below w1.heap.size w1 (((w1.drewN nd).alloc o).alloc (.cells #[] 2)) := by (repeat' (first | (with_reducible exact Below.refl _ _) | (with_reducible assumption) | (with_reducible refine below_drewN ?_ _) | (with_reducible refine Below.drew ?_) | (with_reducible refine Below.alloc ?_ ?_ _) | (with_reducible refine Below.setCell ?_ ?_ _) | go_size))
  refine ⟨ha.below hb, hd.below hb, ?_, trivial⟩
  have := World.ownsRow_made ((w1.drewN nd).alloc o) (e := 2) (size := 1) (base := w1.heap.size + 1) #[] 0 (by simp) (by simp [maxLen]) (by simp)
  simp only [World.size_alloc, World.heap_drewN] at this
  exact this
theorem bd_wb {A D : Option Addr} {n c q e nd : Nat} {s : ByteArray} {lim : Int} {w1 : World} :
    WB A n c s D q e lim w1.heap.size (((w1.drewN nd).alloc (.cells #[.slice A n c, .string s, .slice D q e, .int .i64 lim, .slice none 0 0, .int .i64 (-1), .int .i64 0] 80)).alloc (.cells #[] 2)) ([], -1, 0) := by
  refine ⟨.slice none 0 0, ?_, World.ownsRow_nil _ _ _ _⟩
  have h := World.rowIs_alloc (w1.drewN nd) #[.slice A n c, .string s, .slice D q e, .int .i64 lim, .slice none 0 0, .int .i64 (-1), .int .i64 0] 80 (wC A n c s D q e lim (.slice none 0 0) (-1) 0) (fun i hi => by
    simp only [List.size_toArray, List.length_cons, List.length_nil] at hi
    match i, hi with
    | 0, _ => rfl
    | 1, _ => rfl
    | 2, _ => rfl
    | 3, _ => rfl
    | 4, _ => rfl
    | 5, _ => rfl
    | 6, _ => rfl)
  exact h.alloc _
set_option maxRecDepth 20000 in
set_option maxHeartbeats 8000000 in
theorem c_sBestDrills (A D : Option Addr) (n c q e : Nat) (l : List TDrill) (s : ByteArray) (cs : List Int) (lim : Int) (w : World) (ha : Sl drillC w w.heap.size 3 A n l) (hd : Zs w D q cs) (hsz : DrSz l) (hn : n ≤ 1048576) (hq : q ≤ 1048576) (hs : s.size ≤ maxLen) (hc : n ≤ c) :
    Calls Try.prog 39 #[.slice A n c, .string s, .slice D q e, .int .i64 lim] w (BestPost (bdZ l (bl s) cs lim) (bdV l (bl s) cs lim) (bdC l (bl s) cs lim) w) := by
  have hl := ha.1
  cases g : drsB l
  · obtain ⟨ea, ev, ec⟩ := bd_bad (s := bl s) (cs := cs) (lim := lim) (.inl g)
    rw [ea, ev, ec]
    clear ea ev ec
    have C := Lib.hid (c_l21Ok A n c l _ g w ha hsz hn hc)
    clear g ha hd hsz hl
    go_enter Try.func39, Try.ntmps39
    go_wp2_with (go_at_call 49; refine C.out.mono ?_; rintro r_ w1 ⟨rfl, hb1⟩)
    go_returns
    exact BestPost.err hb1
  have C := Lib.hid (c_l21Ok A n c l _ g w ha hsz hn hc)
  cases g1 : needB (bl s) cs
  · obtain ⟨ea, ev, ec⟩ := bd_bad (l := l) (s := bl s) (cs := cs) (lim := lim) (.inr g1)
    rw [ea, ev, ec]
    clear ea ev ec
    have D1 := Lib.hid (fun (W : World) (hW : Below w.heap.size w W) => c_l21Needs s D q e cs _ g1 W (hd.later hW) hs hq)
    clear g g1 ha hd hsz hl
    go_enter Try.func39, Try.ntmps39
    go_wp2_with (first | (go_at_call 49; refine C.out.mono ?_; rintro r_ w1 ⟨rfl, hb1⟩) | (go_at_call 41; refine (D1.out _ hb1).mono ?_; rintro r_ w2 ⟨rfl, nd, rfl⟩))
    go_returns
    exact BestPost.err (below_drewN hb1 _)
  have D1 := Lib.hid (fun (W : World) (hW : Below w.heap.size w W) => c_l21Needs s D q e cs _ g1 W (hd.later hW) hs hq)
  obtain ⟨hcnt, hlen⟩ := need_ok g1
  have hlz := hd.1
  have hsq : s.size = q := by omega
  have hs30 : s.size ≤ 30 := need_len (by simp only [needB, Bool.and_eq_true] at g1; exact g1.2.1)
  have hn10 := (drs_ok g).1
  rw [hl] at hn10
  cases g2 : betw lim 0 6000
  · obtain ⟨ea, ev, ec⟩ := bd_rng g g1 g2
    rw [ea, ev, ec]
    clear ea ev ec
    have G2 := Lib.hid g2
    clear g g1 g2 ha hd hsz hl hcnt hlen hsq hlz
    go_enter Try.func39, Try.ntmps39
    go_wp2_with (first | (go_at_call 49; refine C.out.mono ?_; rintro r_ w1 ⟨rfl, hb1⟩) | (go_at_call 41; refine (D1.out _ hb1).mono ?_; rintro r_ w2 ⟨rfl, nd, rfl⟩; have hb2 := below_drewN hb1 nd) | (go_at_call 45; refine (c_l00In _ _ _ _ G2.out _).mono ?_; rintro r_ w3 ⟨rfl, rfl⟩))
    go_returns
    exact BestPost.err hb2
  · obtain ⟨ea, ev, ec⟩ := bd_ok g g1 g2
    rw [ea, ev, ec]
    clear ea ev ec
    have hlim := betw_true g2
    obtain ⟨st, hst⟩ : ∃ st, dfs (fun z => covS l z (bl s) cs) (minS l) lim n n [] ([], -1, 0) = st := ⟨_, rfl⟩
    have HBD : bdS l (bl s) cs lim = st := by rw [bdS, hl, hst]
    rw [HBD]
    have HW := Lib.hid (fun (b : Nat) (W : World) (hWP : WalkPre A n l D q cs b (some ⟨b + 1, 0, none⟩) 0 0 [] W) (hWB : WB A n c s D q e lim b W ([], -1, 0)) => (by
      have h := c_walk A n c l s D q e cs lim b hsz g hcnt hsq (by omega) (by omega) n (some ⟨b + 1, 0, none⟩) 0 0 [] ([], -1, 0) W (by simp [loOf]) hWP hWB
      rw [show minS l [] = 0 from rfl, hst] at h
      exact h : Calls Try.prog 65 #[.pointer (some ⟨b, 0, none⟩), .slice (some ⟨b + 1, 0, none⟩) 0 0, .int .i64 0] W (WalkPost A n c s D q e lim b st W)))
    clear HBD hst
    have HA := Lib.hid ha
    have HD := Lib.hid hd
    have G2 := Lib.hid g2
    clear g g1 g2 ha hd hsz hl hcnt hlen hsq hlz
    go_enter Try.func39, Try.ntmps39
    go_wp2_with (first | (go_at_call 49; refine C.out.mono ?_; rintro r_ w1 ⟨rfl, hb1⟩) | (go_at_call 41; refine (D1.out _ hb1).mono ?_; rintro r_ w2 ⟨rfl, nd, rfl⟩; have hb2 := below_drewN hb1 nd) | (go_at_call 45; refine (c_l00In _ _ _ _ G2.out _).mono ?_; rintro r_ w3 ⟨rfl, rfl⟩))
    have hz2 := hb2.size
    have HB2 := Lib.hid hb2
    refine (HW.out w1.heap.size _ (bd_pre (HA.out.later hb1) (HD.out.later hb1)) bd_wb).mono ?_
    rintro r_ w4 ⟨rfl, hWB, hG⟩
    have hB4 : Below w.heap.size w w4 := below_map (by (repeat' (first | (with_reducible exact Below.refl _ _) | (with_reducible assumption) | (with_reducible refine below_drewN ?_ _) | (with_reducible refine Below.drew ?_) | (with_reducible refine Below.alloc ?_ ?_ _) | (with_reducible refine Below.setCell ?_ ?_ _) | go_size))) hG hb1.size (by simp only [World.size_alloc, World.heap_drewN]; have := hb1.size; omega)
    obtain ⟨v, hrow, hown⟩ := hWB
    have c4 := hrow.cell (show 4 < 7 by omega)
    have c5 := hrow.cell (show 5 < 7 by omega)
    simp only [wC] at c4 c5
    have HO := Lib.hid (own_base hown (show w.heap.size ≤ w1.heap.size + 1 by have := hb1.size; omega))
    clear hrow hown hb1 hb2 hG
    go_wp2_with fail
    go_quiet (fail)
    go_wp2_with fail
    go_returns
    exact BestPost.mk_ rfl (own_below HO.out (below_drewN (Below.refl _ _) _)) (below_drewN hB4 _)
end Go.Proofs.Ytnjmjopbeojfoaa
