/- Contracts: TiedResults. -/
import Derived.Test.YtgdmiddiaogpaaaNs
namespace Go.Proofs.Ytgdmiddiaogpaaa
open Go.RowKit Go.BigFrame
attribute [local go_sem] sub_cell sub_frozen drewN_setCell

/-- The groups of more than one. -/
def tiedL (gs : List (List Nat)) : List (List Nat) := gs.filter fun g => decide (1 < g.length)
/-- The rows of these, of the first j groups. -/
def selV (vs : List Value) (gs : List (List Nat)) (j : Nat) : List Value := (((vs.zip gs).take j).filter fun p => decide (1 < p.2.length)).map Prod.fst
theorem selV_in {vs : List Value} {gs : List (List Nat)} {j : Nat} {v : Value} {g : List Nat} (hv : vs[j]? = some v) (hg : gs[j]? = some g) (h : 1 < g.length) : selV vs gs (j + 1) = selV vs gs j ++ [v] := by
  have hz : (vs.zip gs)[j]? = some (v, g) := by rw [List.getElem?_zip_eq_some]; exact ⟨hv, hg⟩
  rw [selV, selV, List.take_add_one, hz, List.filter_append, List.map_append]
  simp [h]
theorem selV_out {vs : List Value} {gs : List (List Nat)} {j : Nat} {v : Value} {g : List Nat} (hv : vs[j]? = some v) (hg : gs[j]? = some g) (h : ¬ 1 < g.length) : selV vs gs (j + 1) = selV vs gs j := by
  have hz : (vs.zip gs)[j]? = some (v, g) := by rw [List.getElem?_zip_eq_some]; exact ⟨hv, hg⟩
  rw [selV, selV, List.take_add_one, hz, List.filter_append, List.map_append]
  simp [h]
theorem selV_len (vs : List Value) (gs : List (List Nat)) (j : Nat) : (selV vs gs j).length ≤ gs.length := by
  rw [selV, List.length_map]
  refine Nat.le_trans (List.length_filter_le _ _) ?_
  rw [List.length_take, List.length_zip]; omega
/-- Rows that share no block. -/
def VApart (v u : Value) : Prop := (v.ownBlock = none ∨ v.ownBlock ≠ u.ownBlock) ∧ (u.ownBlock = none ∨ u.ownBlock ≠ v.ownBlock)
theorem groups_sel {w : World} {b : Nat} {vs : List Value} {gs : List (List Nat)} (h : Groups w b vs (gs.map zl)) : Groups w b (selV vs gs gs.length) ((tiedL gs).map zl) := by
  have hl : vs.length = gs.length := by rw [h.len, List.length_map]
  have htk : (vs.zip gs).take gs.length = vs.zip gs := List.take_of_length_le (by rw [List.length_zip]; omega)
  have hown : ∀ p ∈ vs.zip gs, w.ownsRow b 2 1 p.1 (zl p.2).length ((zl p.2).map (Value.int .i64)) := by
    intro p hp
    obtain ⟨k, hk⟩ := List.getElem?_of_mem hp
    rw [show p = (p.1, p.2) from rfl, List.getElem?_zip_eq_some] at hk
    exact h.own k p.1 (zl p.2) hk.1 (by rw [List.getElem?_map, hk.2]; rfl)
  have hap : (vs.zip gs).Pairwise (fun p q => VApart p.1 q.1) := by
    rw [List.pairwise_iff_getElem]
    intro i j hi hj hij
    have hi1 : i < vs.length := by rw [List.length_zip] at hi; omega
    have hj1 : j < vs.length := by rw [List.length_zip] at hj; omega
    rw [List.getElem_zip, List.getElem_zip]
    exact ⟨h.apart i j _ _ (by omega) (List.getElem?_eq_getElem hi1) (List.getElem?_eq_getElem hj1), h.apart j i _ _ (by omega) (List.getElem?_eq_getElem hj1) (List.getElem?_eq_getElem hi1)⟩
  have hfm : ((vs.zip gs).filter fun p => decide (1 < p.2.length)).map Prod.snd = tiedL gs := by
    have e : (vs.zip gs).map Prod.snd = gs := by rw [List.map_snd_zip]; omega
    have := List.filter_map (p := fun g : List Nat => decide (1 < g.length)) (f := (Prod.snd : Value × List Nat → List Nat)) (l := vs.zip gs)
    rw [e] at this
    rw [tiedL, this]; rfl
  rw [selV, htk, ← hfm]
  have hown2 : ∀ p ∈ (vs.zip gs).filter (fun p => decide (1 < p.2.length)), w.ownsRow b 2 1 p.1 (zl p.2).length ((zl p.2).map (Value.int .i64)) := fun p hp => hown p (List.mem_filter.1 hp).1
  have hap2 := hap.filter (fun p => decide (1 < p.2.length))
  generalize (vs.zip gs).filter (fun p => decide (1 < p.2.length)) = z at hown2 hap2
  rw [List.pairwise_iff_getElem] at hap2
  refine ⟨by simp, fun k v l h1 h2 => ?_, fun j k v u hjk h1 h2 => ?_⟩
  · rw [List.getElem?_map] at h1
    rw [List.map_map, List.getElem?_map] at h2
    cases hz : z[k]? with
    | none => rw [hz] at h1; cases h1
    | some p =>
      rw [hz] at h1 h2
      obtain rfl := Option.some.inj h1
      obtain rfl := Option.some.inj h2
      exact hown2 p (List.mem_of_getElem? hz)
  · rw [List.getElem?_map] at h1 h2
    cases hz1 : z[j]? with
    | none => rw [hz1] at h1; cases h1
    | some p =>
      cases hz2 : z[k]? with
      | none => rw [hz2] at h2; cases h2
      | some q =>
        rw [hz1] at h1
        rw [hz2] at h2
        obtain rfl := Option.some.inj h1
        obtain rfl := Option.some.inj h2
        obtain ⟨a1, a2⟩ := List.getElem?_eq_some_iff.1 hz1
        obtain ⟨b1, b2⟩ := List.getElem?_eq_some_iff.1 hz2
        rcases Nat.lt_or_ge j k with c | c
        · have := hap2 j k a1 b1 c
          rw [a2, b2] at this
          exact this.1
        · have := hap2 k j b1 a1 (by omega)
          rw [a2, b2] at this
          exact this.2
theorem selV_all {w : World} {b : Nat} {vs : List Value} {gs : List (List Nat)} (h : Groups w b vs (gs.map zl)) : (selV vs gs gs.length).length = (tiedL gs).length := by rw [(groups_sel h).len, List.length_map]
def tiedZ (l : List TResult) : List (List Int) := if ressB l = true then (tiedL (grpL (btr l) (rkL (btr l) l.length))).map zl else []
theorem tiedZ_bd (l : List TResult) : (tiedZ l).length ≤ 40 ∧ psum (tiedZ l) (tiedZ l).length ≤ 40 ∧ ∀ x ∈ tiedZ l, x.length ≤ 40 := by
  unfold tiedZ
  split
  · rename_i h
    have h40 := ress_len h
    have G := ginf l l.length
    generalize grpL (btr l) (rkL (btr l) l.length) = gs at G ⊢
    have h1 : (tiedL gs).length ≤ gs.length := List.length_filter_le _ _
    have h2 := G.len
    have h3 : ((tiedL gs).map List.length).sum ≤ (gs.map List.length).sum := by
      clear G h1 h2
      induction gs with
      | nil => simp [tiedL]
      | cons a gs ih =>
        simp only [tiedL] at ih ⊢
        rw [List.filter_cons]
        split
        · simp only [List.map_cons, List.sum_cons]; omega
        · simp only [List.map_cons, List.sum_cons]; omega
    have h4 : (gs.map List.length).sum = l.length := by rw [← List.length_flatten, G.fl, G.rk.len]
    have h5 : ∀ g : List Nat, (zl g).length = g.length := zl_len
    refine ⟨by rw [List.length_map]; omega, ?_, fun x hx => ?_⟩
    · rw [psum, List.take_length, List.map_map]
      have : ((tiedL gs).map (List.length ∘ zl)) = (tiedL gs).map List.length := List.map_congr_left fun g _ => zl_len g
      rw [this]; omega
    · obtain ⟨g, hg, rfl⟩ := List.mem_map.1 hx
      obtain ⟨j, hj⟩ := List.getElem?_of_mem (List.mem_filter.1 hg).1
      have := G.glen hj
      rw [zl_len]; omega
  · exact ⟨by simp, by simp [psum], by simp⟩

set_option maxHeartbeats 4000000 in
theorem c_sTiedResults (A : Option Addr) (n c : Nat) (l : List TResult) (w : World) (ha : Sl resultC w w.heap.size 3 A n l) (hsz : RsSz l) (hn : n ≤ 1048576) :
    Calls Try.prog 38 #[.slice A n c] w (NestPost (tiedZ l) (rankC l) w) := by
  have HL := Lib.hid ha.1
  have HA := Lib.hid ha
  have HSZ := Lib.hid hsz
  clear ha hsz
  cases h1 : ressB l
  · have e1 : Hid (tiedZ l = [] ∧ rankC l = 1) := by constructor <;> simp [tiedZ, rankC, h1]
    go_enter Try.func38, Try.ntmps38
    go_wp2_with (go_at_call 58; refine (c_l22Ok _ _ _ l _ h1 _ HA.out HSZ.out hn).mono ?_; rintro r_ w1 ⟨rfl, hb1⟩)
    go_ret2
    rw [e1.out.1, e1.out.2]
    exact NestPost.err hb1
  have h40 := ress_len h1
  rw [HL.out] at h40
  have e1 : Hid (tiedZ l = (tiedL (grpL (btr l) (rkL (btr l) n))).map zl ∧ rankC l = 0) := by constructor <;> simp [tiedZ, rankC, h1, HL.out]
  have GI := Lib.hid (ginf l n)
  go_enter Try.func38, Try.ntmps38
  go_wp2_with (first | (go_at_call 58; refine (c_l22Ok _ _ _ l _ h1 _ HA.out HSZ.out hn).mono ?_; rintro r_ w1 ⟨rfl, hb1⟩; have HA1 := Lib.hid (HA.out.later hb1); have hz1 := hb1.size) | (go_at_call 69; refine (c_l22Groups _ _ _ l _ HA1.out h40).mono ?_; rintro r_ w3 ⟨G, d, vs, rfl, hst, hb3⟩; have HST := Lib.hid hst; clear hst))
  generalize grpL (btr l) (rkL (btr l) n) = gs at HST GI e1 ⊢
  have hz3 := hb3.size
  have hgl := GI.out.len
  have HB3 := Lib.hid (hb1.trans (hb3.mono hz1))
  clear hb1 hb3
  go_loopw [5, 6] (fun v i wr => ∃ j mm : Nat, j ≤ gs.length ∧ mm ≤ 40 ∧ i = .int .i64 j ∧ Below w3.heap.size w3 wr ∧ wr.ownsRow w3.heap.size 40 1 v mm (selV vs gs j)) (fun _ i _ => gs.length - (intOf i).toNat)
  case atStart => exact ⟨0, 0, Nat.zero_le _, by omega, rfl, by (repeat' (first | (with_reducible exact Below.refl _ _) | (with_reducible assumption) | (with_reducible refine below_drewN ?_ _) | (with_reducible refine Below.drew ?_) | (with_reducible refine Below.alloc ?_ ?_ _) | (with_reducible refine Below.setCell ?_ ?_ _) | go_size)), World.ownsRow_made w3 #[] 0 (Nat.le_refl _) (by simp [maxLen]) rfl⟩
  case round =>
    obtain ⟨j, mm, hj, hmm, rfl, hB, hown⟩ := hrel
    obtain ⟨Av, cv, rfl⟩ := own_slice hown
    have hz := hB.size
    rename World => wo
    have HO := Lib.hid hown
    by_cases hlt : j < gs.length
    · obtain ⟨g, hgj⟩ : ∃ g, gs[j]? = some g := ⟨_, List.getElem?_eq_getElem hlt⟩
      have hti := HST.out.later hB
      obtain ⟨gb, cap, k1, hgb1, hgb2, hvj⟩ := hti.at_ hgj (GI.out.ne hgj)
      have hGl := own_block_lt hti.out
      have i1 : (j : Int) < gs.length := by omega
      have hlen := selV_len vs gs (j + 1)
      have hgl2 := GI.out.glen hgj
      by_cases hg1 : 1 < g.length
      · have HS := Lib.hid (selV_in hvj hgj hg1)
        have i2 : (1 : Int) < (g.length : Int) := by omega
        have hmm3 : mm + 1 ≤ 40 := by
          have h1 := HO.out.1
          have h2 := HS.out
          have h3 := congrArg List.length h2
          rw [List.length_append] at h3
          simp at h3
          omega
        clear hown hti hgj hvj hlen
        go_wp2_with (at_builtin; refine app1 (by rfl) (.tmp 25) (.tmp 30) _ (by rfl) w3.heap.size 40 _ 24 Try.underlying47 info_intsS (by rfl) _ _ (by rfl) _ _ _ (by rfl) HO.out (by rfl) (by omega) (by omega) (by omega) ?_; intro v3 w4 hown3 hb3 hg3; obtain ⟨A3, c3, rfl⟩ := own_slice hown3; have HO3 := Lib.hid hown3; have HB4 := Lib.hid hb3; clear hown3 hb3 hg3)
        go_roundw
        case rel => exact ⟨j + 1, mm + 1, by omega, hmm3, by go_num, hB.trans HB4.out, by rw [HS.out]; exact HO3.out⟩
        case measure => simp [intOf]; omega
      · have HS := Lib.hid (selV_out hvj hgj hg1)
        have i2 : ¬ (1 : Int) < (g.length : Int) := by omega
        clear hown hti hgj hvj hlen
        go_wp2_with fail
        go_roundw
        case rel => exact ⟨j + 1, mm, by omega, hmm, by go_num, hB, by rw [HS.out]; exact HO.out⟩
        case measure => simp [intOf]; omega
    · obtain rfl : j = gs.length := by omega
      clear hown
      go_wp2_with fail
      go_ret2
      rw [e1.out.1, e1.out.2]
      refine NestPost.mk_ (m := mm) ?_ ⟨own_base HO.out HB3.out.size, groups_sel ((HST.out.later hB).grp.more hz1)⟩ (HB3.out.trans (hB.mono HB3.out.size))
      have h1 := HO.out.1
      rw [selV_all HST.out.grp] at h1
      rw [List.length_map]; omega
theorem tieI_ne : (84 : TypeId) ≠ 40 := by decide
theorem own_kinds2 {w : World} {b b' n n' s s' : Nat} {e e' : TypeId} {v u : Value} {xs xs' : List Value} (h : w.ownsRow b e s v n xs) (h' : w.ownsRow b' e' s' u n' xs') (hne : e ≠ e') : v.ownBlock = none ∨ v.ownBlock ≠ u.ownBlock := by
  cases hu : u.ownBlock with
  | none =>
    cases hv : v.ownBlock with
    | none => exact .inl rfl
    | some g => exact .inr (by simp)
  | some g =>
    right
    obtain ⟨A, c, rfl⟩ := own_slice h'
    rcases h'.2 with ⟨h0, _⟩ | ⟨g', cap, cur, h0, _, hh, _⟩
    · simp only [Value.slice.injEq] at h0
      obtain ⟨rfl, _⟩ := h0
      simp [Value.ownBlock] at hu
    · simp only [Value.slice.injEq, true_and] at h0
      obtain ⟨rfl, rfl⟩ := h0
      simp only [Value.ownBlock, Option.some.injEq] at hu
      subst hu
      exact own_kinds h h' hne
theorem TieIn.keptK {N G m c b k s : Nat} {w w' : World} {gs : List (List Nat)} {vs xs : List Value} {v : Value} (h : TieIn N w G m c gs vs) (hv : w.ownsRow b 40 s v k xs) (hg : w.grownBy w' v.ownBlock) : TieIn N w' G m c gs vs := by
  refine ⟨World.ownsRow.kept h.out hg (own_kinds2 h.out hv tieI_ne), h.grp.kept hg fun q u hu => ?_, h.len⟩
  have hq : q < (gs.map zl).length := by rw [← h.grp.len]; exact (List.getElem?_eq_some_iff.1 hu).1
  exact own_kinds2 (h.grp.own q u _ hu (List.getElem?_eq_getElem hq)) hv ints_ne
set_option maxHeartbeats 4000000 in
theorem c_iTiedResults (A : Option Addr) (n c : Nat) (l : List TResult) (w : World) (ha : Sl resultC w w.heap.size 3 A n l) (hsz : RsSz l) (hn : n ≤ 1048576) :
    Calls Try.prog 39 #[.slice A n c] w (NestPost (tiedZ l) (rankC l) w) := by
  have HL := Lib.hid ha.1
  have HA := Lib.hid ha
  have HSZ := Lib.hid hsz
  clear ha hsz
  cases h1 : ressB l
  · have e1 : Hid (tiedZ l = [] ∧ rankC l = 1) := by constructor <;> simp [tiedZ, rankC, h1]
    go_enter Try.func39, Try.ntmps39
    go_wp2_with (go_at_call 20; refine (c_iValidResults _ _ _ l _ h1 _ HA.out HSZ.out hn).mono ?_; rintro r_ w1 ⟨rfl, hb1⟩)
    go_ret2
    rw [e1.out.1, e1.out.2]
    exact NestPost.err hb1
  have h40 := ress_len h1
  rw [HL.out] at h40
  have e1 : Hid (tiedZ l = (tiedL (grpL (btr l) (rkL (btr l) n))).map zl ∧ rankC l = 0) := by constructor <;> simp [tiedZ, rankC, h1, HL.out]
  have GI := Lib.hid (ginf l n)
  go_enter Try.func39, Try.ntmps39
  go_wp2_with (first | (go_at_call 20; refine (c_iValidResults _ _ _ l _ h1 _ HA.out HSZ.out hn).mono ?_; rintro r_ w1 ⟨rfl, hb1⟩; have HA1 := Lib.hid (fun o => (HA.out.later hb1).later (Below.alloc (Below.refl _ _) (Nat.le_refl _) o)); have hz1 := hb1.size; have HB1 := Lib.hid hb1; clear hb1) | (go_at_call 67; refine (c_ties _ _ _ l _ (HA1.out _) h40).mono ?_; rintro r_ w3 ⟨G, d, vs, rfl, hst⟩; have HST := Lib.hid hst; have hb3 := hst.below; clear hst))
  generalize grpL (btr l) (rkL (btr l) n) = gs at HST GI e1 ⊢
  have hz3 := hb3.size
  simp only [World.size_alloc] at hz3
  have hgl := GI.out.len
  have HB3 := Lib.hid hb3
  clear hb3
  go_loopw [4, 14] (fun v i wr => ∃ j mm : Nat, j ≤ gs.length ∧ mm ≤ 40 ∧ i = .int .i64 j ∧ Below w.heap.size w wr ∧ wr.ownsRow w.heap.size 40 1 v mm (selV vs gs j) ∧ TieIn (w1.heap.size + 1) wr G gs.length d gs vs) (fun _ i _ => gs.length - (intOf i).toNat)
  case atStart => exact ⟨0, 0, Nat.zero_le _, by omega, rfl, (HB1.out.alloc hz1 _).trans (HB3.out.mono (by simp; omega)), own_below (own_base (World.ownsRow_made w1 #[] 0 (Nat.le_refl _) (by simp [maxLen]) rfl) hz1) HB3.out, by have := HST.out.rd; rwa [World.size_alloc] at this⟩
  case round =>
    obtain ⟨j, mm, hj, hmm, rfl, hB, hown, hti⟩ := hrel
    obtain ⟨Av, cv, rfl⟩ := own_slice hown
    have hz := hB.size
    rename World => wo
    have HO := Lib.hid hown
    have HTI := Lib.hid hti
    by_cases hlt : j < gs.length
    · obtain ⟨g, hgj⟩ : ∃ g, gs[j]? = some g := ⟨_, List.getElem?_eq_getElem hlt⟩
      obtain ⟨gb, cap, k0, k1, hgb1, hgb2, hvj⟩ := hti.at_ hgj (GI.out.ne hgj)
      have hGl := own_block_lt hti.out
      have i1 : (j : Int) < gs.length := by omega
      have hlen := selV_len vs gs (j + 1)
      have hgl2 := GI.out.glen hgj
      by_cases hg1 : 1 < g.length
      · have HS := Lib.hid (selV_in hvj hgj hg1)
        have i2 : (1 : Int) < (g.length : Int) := by omega
        have hmm3 : mm + 1 ≤ 40 := by
          have h1 := HO.out.1
          have h2 := HS.out
          have h3 := congrArg List.length h2
          rw [List.length_append] at h3
          simp at h3
          omega
        clear hown hti hgj hvj hlen
        go_wp2_with (at_builtin; refine app1 (by rfl) (.tmp 22) (.tmp 25) _ (by rfl) w.heap.size 40 _ 24 Try.underlying47 info_intsS (by rfl) _ _ (by rfl) _ _ _ (by rfl) (HO.out.alloc _) (by rw [World.size_alloc]; rfl) (by omega) (by omega) (by simp; omega) ?_; intro v3 w4 hown3 hb3 hg3; obtain ⟨A3, c3, rfl⟩ := own_slice hown3; have HO3 := Lib.hid hown3; have HB4 := Lib.hid hb3; have HG4 := Lib.hid ((HTI.out.alloc _).keptK (HO.out.alloc _) hg3); clear hown3 hb3 hg3)
        go_roundw
        case rel => exact ⟨j + 1, mm + 1, by omega, hmm3, by go_num, (hB.alloc hz _).trans HB4.out, by rw [HS.out]; exact HO3.out, HG4.out⟩
        case measure => simp [intOf]; omega
      · have HS := Lib.hid (selV_out hvj hgj hg1)
        have i2 : ¬ (1 : Int) < (g.length : Int) := by omega
        clear hown hti hgj hvj hlen
        go_wp2_with fail
        go_roundw
        case rel => exact ⟨j + 1, mm, by omega, hmm, by go_num, hB.alloc hz _, by rw [HS.out]; exact HO.out.alloc _, HTI.out.alloc _⟩
        case measure => simp [intOf]; omega
    · obtain rfl : j = gs.length := by omega
      clear hown hti
      go_wp2_with fail
      go_ret2
      rw [e1.out.1, e1.out.2]
      refine NestPost.mk_ (m := mm) ?_ ⟨HO.out, groups_sel (HTI.out.grp.more (by omega))⟩ hB
      have h1 := HO.out.1
      rw [selV_all HTI.out.grp] at h1
      rw [List.length_map]; omega
end Go.Proofs.Ytgdmiddiaogpaaa
