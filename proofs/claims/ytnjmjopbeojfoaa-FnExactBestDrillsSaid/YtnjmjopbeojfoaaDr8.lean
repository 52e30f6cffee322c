/- Contracts: the fewest drills that train all letters (the reference). -/
import Derived.Test.YtnjmjopbeojfoaaDr5
import Derived.Test.YtnjmjopbeojfoaaFw
import Derived.Test.YtnjmjopbeojfoaaOw
namespace Go.Proofs.Ytnjmjopbeojfoaa
open Go.RowKit Go.BigFrame
attribute [local go_sem] sub_cell sub_frozen drewN_setCell sb_toList mt_toList cons_beq_nil nil_beq_nil

/-- Drills z train all letters. -/
def allTr (l : List TDrill) (s : List UInt8) (z : List Int) : Bool := decide (leftL l z s = [])
/-- What the search leaves: the set that was found and true, or nothing and false. -/
def FewPost (base : Nat) (o : Option (List Int)) (w : World) (r : Ending) (w' : World) : Prop :=
  match o with
  | some zs => ∃ A c, r = .returned (.tuple #[.slice A zs.length c, .bool true]) ∧ w'.ownsRow base 2 1 (.slice A zs.length c) zs.length (zs.map (Value.int .i64)) ∧ Below w.heap.size w w'
  | none => ∃ v, r = .returned (.tuple #[v, .bool false]) ∧ Below w.heap.size w w'
theorem FewPost.mk_ {base n : Nat} {o : Option (List Int)} {zs : List Int} {v : Value} {w w' : World} (ho : o = some zs) (hn : zs.length = n) (hown : w'.ownsRow base 2 1 v n (zs.map (Value.int .i64))) (hb : Below w.heap.size w w') : FewPost base o w (.returned (.tuple #[v, .bool true])) w' := by
  subst ho; subst hn
  obtain ⟨A, c, rfl⟩ := own_slice hown
  exact ⟨A, c, rfl, hown, hb⟩
theorem FewPost.no {base : Nat} {o : Option (List Int)} {v : Value} {w w' : World} (ho : o = none) (hb : Below w.heap.size w w') : FewPost base o w (.returned (.tuple #[v, .bool false])) w' := by
  subst ho
  exact ⟨v, rfl, hb⟩
theorem fstS_le {α : Type} {f : Nat → Option α} {a b : Nat} (h : fstS f a = none) (hb : b ≤ a) : fstS f b = none := by
  cases g : fstS f b with
  | none => rfl
  | some r =>
    obtain ⟨j, hj, hf, _⟩ := fstS_some g
    rw [fstS_none h j (by omega)] at hf
    cases hf
theorem idx_snoc {n : Nat} {z : List Int} {x : Int} (h : IdxIn n z) (h0 : 0 ≤ x) (h1 : x < n) : IdxIn n (z ++ [x]) := by
  intro y hy
  rcases List.mem_append.1 hy with hy | hy
  · exact h y hy
  · rw [List.mem_singleton.1 hy]; exact ⟨h0, h1⟩
theorem map_snocI (z : List Int) (x : Int) : (z ++ [x]).map (Value.int .i64) = z.map (Value.int .i64) ++ [.int .i64 x] := by simp
set_option maxRecDepth 20000 in
set_option maxHeartbeats 8000000 in
theorem c_l21Fewest (A : Option Addr) (n c base : Nat) (l : List TDrill) (s : ByteArray) (hsz : DrSz l) (hn : n ≤ 10) (hs : s.size ≤ 1048576) : ∀ (m : Nat) (S : Option Addr) (k d : Nat) (z : List Int) (lo : Int) (w : World),
    Sl drillC w w.heap.size 3 A n l → w.ownsRow base 2 1 (.slice S k d) k (z.map (Value.int .i64)) → base ≤ w.heap.size → IdxIn n z → 0 ≤ lo → lo ≤ n → k + m ≤ 1000 →
    Calls Try.prog 62 #[.slice A n c, .string s, .slice S k d, .int .i64 lo, .int .i64 (m : Int)] w (FewPost base (fw (allTr l (bl s)) n m z lo) w) := by
  have HSZ := Lib.hid hsz
  clear hsz
  intro m
  induction m with
  | zero =>
    intro S k d z lo w ha hown hbase hz hlo hln hk
    have hlen : z.length = k := by have := hown.1; simpa using this
    obtain ⟨q, hq⟩ : ∃ q, leftL l z (bl s) = q := ⟨_, rfl⟩
    have C := c_l21Left A S n c k d l z s w ha (zs_ownN hown) HSZ.out hz (by omega) (by omega) hs
    rw [hq] at C
    have HC := Lib.hid C
    have HO := Lib.hid hown
    have HL := Lib.hid hlen
    clear C hown hlen ha hz
    cases q with
    | nil =>
      have E : Hid (fw (allTr l (bl s)) n 0 z lo = some z) := by show _ = _; simp [fw, allTr, hq]
      clear hq
      go_enter Try.func62, Try.ntmps62
      go_wp2_with (go_at_call 58; refine HC.out.mono ?_; rintro r_ w1 ⟨rfl, hb1⟩)
      go_returns
      exact FewPost.mk_ E.out HL.out (own_below HO.out hb1) hb1
    | cons a t =>
      have E : Hid (fw (allTr l (bl s)) n 0 z lo = none) := by show _ = _; simp [fw, allTr, hq]
      clear hq
      go_enter Try.func62, Try.ntmps62
      go_wp2_with (go_at_call 58; refine HC.out.mono ?_; rintro r_ w1 ⟨rfl, hb1⟩)
      go_returns
      exact FewPost.no E.out hb1
  | succ m ih =>
    intro S k d z lo w ha hown hbase hz hlo hln hk
    have hlen : z.length = k := by have := hown.1; simpa using this
    have IH := Lib.hid ih
    have HA := Lib.hid ha
    have HO := Lib.hid hown
    have HL := Lib.hid hlen
    have HZ := Lib.hid hz
    clear ih ha hown hlen hz
    go_enter Try.func62, Try.ntmps62
    go_wp2_with fail
    go_loopw [12, 13, 14] (fun i _ _ wr => ∃ q : Int, lo ≤ q ∧ q ≤ n ∧ i = .int .i64 q ∧ Below w.heap.size w wr ∧ Hid (fstS (fun j => fw (allTr l (bl s)) n m (z ++ [lo + (j : Int)]) (lo + (j : Int) + 1)) (q - lo).toNat = none)) (fun i _ _ _ => (n + 1 - (intOf i)).toNat)
    case atStart => exact ⟨lo, Int.le_refl _, hln, rfl, Below.refl _ _, by show fstS _ _ = none; rw [Int.sub_self]; rfl⟩
    case round =>
      obtain ⟨q, hq0, hq1, rfl, hB, hnone⟩ := hrel
      have hz1 := hB.size
      have hsz9 : base ≤ wr.heap.size := by omega
      by_cases hlt : q + ((m : Int) + 1) ≤ n
      · obtain ⟨o, ho⟩ : ∃ o, fw (allTr l (bl s)) n m (z ++ [q]) (q + 1) = o := ⟨_, rfl⟩
        have HF : Hid ((fun j : Nat => fw (allTr l (bl s)) n m (z ++ [lo + (j : Int)]) (lo + (j : Int) + 1)) (q - lo).toNat = o) := by
          show fw _ _ _ (z ++ [lo + ((q - lo).toNat : Int)]) (lo + ((q - lo).toNat : Int) + 1) = o
          rw [show lo + ((q - lo).toNat : Int) = q by omega, ho]
        have HI := Lib.hid (fun (S' : Option Addr) (d' : Nat) (W : World) (h1 : Sl drillC W W.heap.size 3 A n l) (h2 : W.ownsRow base 2 1 (.slice S' (k + 1) d') (k + 1) ((z ++ [q]).map (Value.int .i64))) (h3 : base ≤ W.heap.size) => ho ▸ IH.out S' (k + 1) d' (z ++ [q]) (q + 1) W h1 h2 h3 (idx_snoc HZ.out (by omega) (by omega)) (by omega) (by omega) (by omega))
        clear ho
        cases o with
        | none =>
          go_wp2_with (first | (go_at_call 74; refine (c_l00Own S k d z _ (zs_ownN (own_below HO.out hB)) (by omega)).mono ?_; intro r_ w1 h_; obtain ⟨A1, c1, rfl, o1, b1⟩ := ZsPost.elim h_ HL.out; have hz2 := b1.size; have B1 := Lib.hid (hB.trans (b1.mono hz1)); have O1 := Lib.hid o1; clear h_ o1 b1) | (at_builtin; refine app1 rfl (.tmp 36) (.tmp 38) _ rfl wr.heap.size 2 _ 8 Try.underlying22 info_int64 rfl _ _ rfl _ _ _ rfl O1.out rfl (by omega) (by omega) (by omega) ?_; intro v2 w2 hown2 hb2 hg2; obtain ⟨A2, c2, rfl⟩ := own_slice hown2; have hz3 := hb2.size; have B2 := Lib.hid (B1.out.trans (hb2.mono hz1)); have O2 := Lib.hid (own_base hown2 hsz9); clear hown2 hb2 hg2) | (go_at_call 62; refine (HI.out _ _ _ (HA.out.later B2.out) (by rw [map_snocI]; exact O2.out) (by omega)).mono ?_; rintro r_ w3 ⟨v3, rfl, b3⟩; have B3 := Lib.hid (B2.out.trans (b3.mono B2.out.size)); clear b3))
          go_roundw
          case rel => ((repeat apply Exists.intro); exact ⟨⟨q + 1, by omega, by omega, rfl, B3.out, by show fstS _ _ = none; rw [show (q + 1 - lo).toNat = (q - lo).toNat + 1 by omega]; exact fstS_step hnone.out HF.out⟩, rfl⟩)
          case measure => simp [intOf]; omega
        | some zs =>
          go_wp2_with (first | (go_at_call 74; refine (c_l00Own S k d z _ (zs_ownN (own_below HO.out hB)) (by omega)).mono ?_; intro r_ w1 h_; obtain ⟨A1, c1, rfl, o1, b1⟩ := ZsPost.elim h_ HL.out; have hz2 := b1.size; have B1 := Lib.hid (hB.trans (b1.mono hz1)); have O1 := Lib.hid o1; clear h_ o1 b1) | (at_builtin; refine app1 rfl (.tmp 36) (.tmp 38) _ rfl wr.heap.size 2 _ 8 Try.underlying22 info_int64 rfl _ _ rfl _ _ _ rfl O1.out rfl (by omega) (by omega) (by omega) ?_; intro v2 w2 hown2 hb2 hg2; obtain ⟨A2, c2, rfl⟩ := own_slice hown2; have hz3 := hb2.size; have B2 := Lib.hid (B1.out.trans (hb2.mono hz1)); have O2 := Lib.hid (own_base hown2 hsz9); clear hown2 hb2 hg2) | (go_at_call 62; refine (HI.out _ _ _ (HA.out.later B2.out) (by rw [map_snocI]; exact O2.out) (by omega)).mono ?_; rintro r_ w3 ⟨A3, c3, rfl, o3, b3⟩; have B3 := Lib.hid (B2.out.trans (b3.mono B2.out.size)); have O3 := Lib.hid o3; clear o3 b3))
          go_returns
          exact FewPost.mk_ (fstS_hit hnone.out HF.out (by omega)) rfl O3.out B3.out
      · have E : Hid (fw (allTr l (bl s)) n (m + 1) z lo = none) := fstS_le hnone.out (by omega)
        go_wp2_with fail
        go_returns
        exact FewPost.no E.out hB
def fewC (l : List TDrill) (s : List UInt8) : Int := if drsB l && needL s then (if (fewO (allTr l s) l.length).isSome then 0 else 3) else 1
def fewA (l : List TDrill) (s : List UInt8) : List Int := if drsB l && needL s then (fewO (allTr l s) l.length).getD [] else []
theorem few_bad {l : List TDrill} {s : List UInt8} (h : drsB l = false ∨ needL s = false) : fewA l s = [] ∧ fewC l s = 1 := by
  rcases h with h | h <;> simp [fewA, fewC, h]
theorem few_none {l : List TDrill} {s : List UInt8} (h : drsB l = true) (h1 : needL s = true) (h2 : fewO (allTr l s) l.length = none) : fewA l s = [] ∧ fewC l s = 3 := by simp [fewA, fewC, h, h1, h2]
theorem few_some {l : List TDrill} {s : List UInt8} {zs : List Int} (h : drsB l = true) (h1 : needL s = true) (h2 : fewO (allTr l s) l.length = some zs) : fewA l s = zs ∧ fewC l s = 0 := by simp [fewA, fewC, h, h1, h2]
theorem fewA_len (l : List TDrill) (s : List UInt8) : (fewA l s).length ≤ 40 := by
  unfold fewA
  split
  · rename_i h
    simp only [Bool.and_eq_true] at h
    cases g : fewO (allTr l s) l.length with
    | none => simp
    | some zs =>
      have h1 := Rsg_len (fewO_some g).1 (by omega)
      have h2 := (drs_ok h.1).1
      show zs.length ≤ 40
      omega
  · simp
theorem IntsPost.err {code : Int} {w w' : World} (hb : Below w.heap.size w w') : IntsPost [] code w (.returned (.tuple #[.slice none 0 0, .int .i64 code])) w' :=
  ⟨none, 0, rfl, ⟨rfl, .inl ⟨rfl, rfl⟩⟩, hb⟩
set_option maxRecDepth 20000 in
set_option maxHeartbeats 8000000 in
theorem c_sFewestDrills (A : Option Addr) (n c : Nat) (l : List TDrill) (s : ByteArray) (w : World) (ha : Sl drillC w w.heap.size 3 A n l) (hsz : DrSz l) (hn : n ≤ 1048576) (hs : s.size ≤ maxLen) (hc : n ≤ c) :
    Calls Try.prog 35 #[.slice A n c, .string s] w (IntsPost (fewA l (bl s)) (fewC l (bl s)) w) := by
  have hl := ha.1
  cases g : drsB l
  · obtain ⟨ea, ec⟩ := few_bad (s := bl s) (.inl g)
    rw [ea, ec]
    clear ea ec
    have C := Lib.hid (c_l21Ok A n c l _ g w ha hsz hn hc)
    clear g ha hsz hl
    go_enter Try.func35, Try.ntmps35
    go_wp2_with (go_at_call 49; refine C.out.mono ?_; rintro r_ w1 ⟨rfl, hb1⟩)
    go_returns
    exact IntsPost.err hb1
  have C := Lib.hid (c_l21Ok A n c l _ g w ha hsz hn hc)
  cases g1 : needL (bl s)
  · obtain ⟨ea, ec⟩ := few_bad (l := l) (s := bl s) (.inr g1)
    rw [ea, ec]
    clear ea ec
    have D1 := Lib.hid (fun (W : World) => c_l21Letters s _ g1 W hs)
    clear g g1 ha hsz hl
    go_enter Try.func35, Try.ntmps35
    go_wp2_with (first | (go_at_call 49; refine C.out.mono ?_; rintro r_ w1 ⟨rfl, hb1⟩) | (go_at_call 57; refine (D1.out _).mono ?_; rintro r_ w2 ⟨rfl, nd, rfl⟩))
    go_returns
    exact IntsPost.err (below_drewN hb1 _)
  have D1 := Lib.hid (fun (W : World) => c_l21Letters s _ g1 W hs)
  have hs30 := need_len g1
  have hn10 := (drs_ok g).1
  rw [hl] at hn10
  have HF := Lib.hid (fun (q : Nat) (hq : q ≤ n) (W : World) (hW : Below w.heap.size w W) => c_l21Fewest A n c w.heap.size l s hsz hn10 (by omega) q (some ⟨W.heap.size, 0, none⟩) 0 0 [] 0 (W.alloc (.cells #[] 2)) ((ha.later hW).later ((Below.refl _ _).alloc (Nat.le_refl _) _)) (own_base (World.ownsRow_made W #[] 0 (Nat.le_refl _) (by simp [maxLen]) rfl) hW.size) (by have := hW.size; simp; omega) (fun x hx => by cases hx) (Int.le_refl 0) (by omega) (by omega))
  have HL := Lib.hid hl
  have G := Lib.hid g
  have G1 := Lib.hid g1
  clear g g1 ha hsz hl
  go_enter Try.func35, Try.ntmps35
  go_wp2_with (first | (go_at_call 49; refine C.out.mono ?_; rintro r_ w1 ⟨rfl, hb1⟩) | (go_at_call 57; refine (D1.out _).mono ?_; rintro r_ w2 ⟨rfl, nd, rfl⟩; have hb2 := below_drewN hb1 nd))
  go_loopw [6, 7, 8] (fun i _ _ wr => ∃ q : Nat, q ≤ n + 1 ∧ i = .int .i64 q ∧ Below w.heap.size w wr ∧ Hid (fstS (fun m => fw (allTr l (bl s)) n m [] 0) q = none)) (fun i _ _ _ => n + 1 - (intOf i).toNat)
  case atStart => exact ⟨0, Nat.zero_le _, rfl, hb2, rfl⟩
  case round =>
    clear hb1 hb2
    obtain ⟨q, hq, rfl, hB, hnone⟩ := hrel
    have hz1 := hB.size
    by_cases hlt : q ≤ n
    · obtain ⟨o, ho⟩ : ∃ o, fw (allTr l (bl s)) n q [] 0 = o := ⟨_, rfl⟩
      have HI := Lib.hid (ho ▸ HF.out q hlt wr hB)
      have HO := Lib.hid ho
      clear ho
      cases o with
      | none =>
        go_wp2_with (go_at_call 62; refine HI.out.mono ?_; rintro r_ w3 ⟨v3, rfl, b3⟩; have B3 := Lib.hid ((hB.alloc hz1 (.cells #[] 2)).trans (b3.mono (by simp; omega))); clear b3)
        go_roundw
        case rel => exact ⟨q + 1, by omega, by go_num, B3.out, fstS_step hnone.out HO.out⟩
        case measure => simp [intOf]; omega
      | some zs =>
        have E : Hid (fewA l (bl s) = zs ∧ fewC l (bl s) = 0) := few_some G.out G1.out (by rw [HL.out]; exact fstS_hit hnone.out HO.out (by omega))
        go_wp2_with (go_at_call 62; refine HI.out.mono ?_; rintro r_ w3 ⟨A3, c3, rfl, o3, b3⟩; have B3 := Lib.hid ((hB.alloc hz1 (.cells #[] 2)).trans (b3.mono (by simp; omega))); have O3 := Lib.hid o3; clear o3 b3)
        go_returns
        rw [E.out.1, E.out.2]
        exact IntsPost.mk_ rfl O3.out B3.out
    · obtain rfl : q = n + 1 := by omega
      have E : Hid (fewA l (bl s) = [] ∧ fewC l (bl s) = 3) := few_none G.out G1.out (by rw [HL.out]; exact hnone.out)
      go_wp2_with fail
      go_returns
      rw [E.out.1, E.out.2]
      exact IntsPost.err hB
end Go.Proofs.Ytnjmjopbeojfoaa
