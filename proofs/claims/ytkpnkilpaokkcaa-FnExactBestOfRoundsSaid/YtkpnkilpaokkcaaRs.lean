/- Contracts: results: validity, equality. -/
import Derived.Test.YtkpnkilpaokkcaaSlResult
import Derived.Test.YtkpnkilpaokkcaaNm
import Derived.Test.YtkpnkilpaokkcaaLo
import Derived.Test.YtkpnkilpaokkcaaMp
namespace Go.Proofs.Ytkpnkilpaokkcaa
open Go.RowKit Go.BigFrame
attribute [local go_sem] sub_cell sub_frozen drewN_setCell

def okRes (x : TResult) : Bool := nameB (bl x.1) && (betw x.2.1 0 100000 && betw x.2.2 0 100000)
def ressB (l : List TResult) : Bool := listOk okRes (·.1) l && decide (l.length ≤ 40)
theorem ress_item {l : List TResult} {k : Nat} {x : TResult} (h : l[k]? = some x) (hx : okAt okRes (·.1) l k = false) : ressB l = false := by simp [ressB, listOk_bad h hx]
theorem ress_end {l : List TResult} {n : Nat} (hl : l.length = n) (h : allN (okAt okRes (·.1) l) n = true) : ressB l = decide ((n : Int) ≤ 40) := by
  subst hl
  simp only [ressB, listOk, h, Bool.true_and]
  simp; omega
/-- The sizes of the names of results. -/
def RsSz (l : List TResult) : Prop := ∀ x ∈ l, x.1.size ≤ maxLen

set_option maxHeartbeats 1000000 in
theorem c_l22One (nm : ByteArray) (ne er : Int) (b o : Nat) (r : Bool) (h : okRes (nm, ne, er) = r) (w : World) (h0 : w.cell? ⟨b, o, none⟩ = some (.string nm)) (h1 : w.cell? ⟨b, o + 1, none⟩ = some (.int .i64 ne)) (h2 : w.cell? ⟨b, o + 2, none⟩ = some (.int .i64 er)) (hn : nm.size ≤ maxLen) :
    Calls Try.prog 22 #[.pointer (some ⟨b, o, none⟩)] w fun e w' => e = .returned (.bool r) ∧ w = w' := by
  subst h
  have HN := Lib.hid hn
  clear hn
  cases g1 : nameB (bl nm) <;> have G1 := Lib.hid g1 <;> clear g1
  · go_enter Try.func22, Try.ntmps22
    go_wp2_with (go_at_call 26; refine (c_sIsName _ _ G1.out _ HN.out).mono ?_; rintro e w' ⟨rfl, rfl⟩)
    go_ret
    exact ⟨by simp only [okRes, G1.out]; rfl, rfl⟩
  cases g2 : betw ne 0 100000 <;> have G2 := Lib.hid g2 <;> clear g2
  · go_enter Try.func22, Try.ntmps22
    go_wp2_with (first | (go_at_call 26; refine (c_sIsName _ _ G1.out _ HN.out).mono ?_; rintro e w' ⟨rfl, rfl⟩) | (go_at_call 27; refine (c_l00In _ _ _ _ G2.out _).mono ?_; rintro e w' ⟨rfl, rfl⟩))
    go_ret
    exact ⟨by simp only [okRes, G1.out, G2.out]; rfl, rfl⟩
  cases g3 : betw er 0 100000 <;> have G3 := Lib.hid g3 <;> clear g3
  all_goals
    go_enter Try.func22, Try.ntmps22
    go_wp2_with (first | (go_at_call 26; refine (c_sIsName _ _ G1.out _ HN.out).mono ?_; rintro e w' ⟨rfl, rfl⟩) | (go_at_call 27; first | (with_reducible refine (c_l00In ne _ _ _ G2.out _).mono ?_; rintro e w' ⟨rfl, rfl⟩) | (with_reducible refine (c_l00In er _ _ _ G3.out _).mono ?_; rintro e w' ⟨rfl, rfl⟩)))
    go_ret
    exact ⟨by simp only [okRes, G1.out, G2.out, G3.out]; rfl, rfl⟩

set_option maxHeartbeats 4000000 in
theorem c_l22Ok (A : Option Addr) (n c : Nat) (l : List TResult) (r : Bool) (h : ressB l = r) (w : World) (ha : Sl resultC w w.heap.size 3 A n l) (hsz : RsSz l) (hn : n ≤ 1048576) :
    Calls Try.prog 14 #[.slice A n c] w fun e w' => e = .returned (.bool r) ∧ Below w.heap.size w w' := by
  subst h
  have HL := Lib.hid ha.1
  have HSZ := Lib.hid hsz
  have HA := Lib.hid ha
  clear hsz ha
  go_enter Try.func14, Try.ntmps14
  go_wp2_with fail
  go_loopw [3] (fun i wr => ∃ p : Nat, p ≤ n ∧ i = .int .i64 p ∧ Below w.heap.size w wr ∧ Hid (allN (okAt okRes (·.1) l) p = true)) (fun i _ => n - (intOf i).toNat)
  case atStart => exact ⟨0, Nat.zero_le _, rfl, Below.refl _ _, rfl⟩
  case round =>
    obtain ⟨p, hpn, rfl, hB, hok⟩ := hrel
    by_cases hlt2 : p < n
    · obtain ⟨b, o, nm, ne, er, rfl, hb1, hb2, hx, c0, c1, c2⟩ := result_at HA.out hB hlt2
      have hs1 := HSZ.out _ (List.mem_of_getElem? hx)
      have HX := Lib.hid hx
      clear hx
      cases g : okRes (nm, ne, er) <;> have G := Lib.hid g <;> clear g
      · go_wp2_with (go_at_call 22; refine (c_l22One nm ne er _ _ _ G.out _ c0 c1 c2 hs1).mono ?_; rintro e w' ⟨rfl, rfl⟩)
        go_ret
        exact ⟨by rw [ress_item HX.out (okAt_bad HX.out G.out)]; rfl, hB⟩
      · go_wp2_with (go_at_call 22; refine (c_l22One nm ne er _ _ _ G.out _ c0 c1 c2 hs1).mono ?_; rintro e w' ⟨rfl, rfl⟩)
        go_loopw [4] (fun y wr2 => ∃ q : Nat, q ≤ p ∧ y = .int .i64 q ∧ Below w.heap.size w wr2 ∧ Hid (nm ∉ (l.take q).map (·.1))) (fun y _ => p - (intOf y).toNat)
        case atStart => exact ⟨0, Nat.zero_le _, rfl, hB, by show nm ∉ _; simp⟩
        case round =>
          clear c0 c1 c2 hb1 hB
          obtain ⟨q, hq, rfl, hB, hnot⟩ := hrel
          by_cases hlt3 : q < p
          · obtain ⟨nm1, wt1, sg1, hb1, _, hx1, c0, _, _⟩ := result_atB HA.out hB (k := q) (by omega)
            obtain ⟨nm2, wt2, sg2, _, _, hx2, c0', _, _⟩ := result_atB HA.out hB hlt2
            rw [HX.out] at hx2
            simp only [Option.some.injEq, Prod.mk.injEq] at hx2
            obtain ⟨rfl, rfl, rfl⟩ := hx2
            have HX1 := Lib.hid hx1
            clear hx1
            by_cases e : nm1 = nm
            · have e1 := txt_eq e
              have E := Lib.hid e
              clear e
              go_wp2_with fail
              go_quiet (fail)
              go_wp2_with fail
              go_ret
              exact ⟨by rw [ress_item HX.out (okAt_old HX.out (in_later HX1.out hlt3 E.out.symm))]; rfl, by (repeat' (first | (with_reducible exact Below.refl _ _) | (with_reducible assumption) | (with_reducible refine below_drewN ?_ _) | (with_reducible refine Below.drew ?_) | (with_reducible refine Below.alloc ?_ ?_ _) | (with_reducible refine Below.setCell ?_ ?_ _) | go_size))⟩
            · have e1 := txt_ne e
              have E := Lib.hid e
              clear e
              go_wp2_with fail
              go_quiet (fail)
              go_wp2_with fail
              go_roundw
              case rel => exact ⟨q + 1, by omega, by go_num, by (repeat' (first | (with_reducible exact Below.refl _ _) | (with_reducible assumption) | (with_reducible refine below_drewN ?_ _) | (with_reducible refine Below.drew ?_) | (with_reducible refine Below.alloc ?_ ?_ _) | (with_reducible refine Below.setCell ?_ ?_ _) | go_size)), notin_succ HX1.out hnot.out (fun e => E.out e.symm)⟩
              case measure => simp [intOf]; omega
          · obtain rfl : q = p := by omega
            go_wp2_with fail
            go_roundw
            case rel => exact ⟨q + 1, by omega, by go_num, hB, allN_succ hok.out (okAt_ok HX.out G.out hnot.out)⟩
            case measure => simp [intOf]; omega
    · obtain rfl : p = n := by omega
      have HE := Lib.hid (ress_end HL.out hok.out)
      go_wp2_with fail
      go_ret
      exact ⟨by rw [HE.out]; rfl, hB⟩
theorem zero_bool (w : World) : (zeroValue 4).run Try.prog w = .ok (.bool false) w := by kernel_rfl
set_option maxHeartbeats 4000000 in
theorem c_iValidResults (A : Option Addr) (n c : Nat) (l : List TResult) (r : Bool) (h : ressB l = r) (w : World) (ha : Sl resultC w w.heap.size 3 A n l) (hsz : RsSz l) (hn : n ≤ 1048576) :
    Calls Try.prog 17 #[.slice A n c] w fun e w' => e = .returned (.bool r) ∧ Below w.heap.size w w' := by
  subst h
  have HL := Lib.hid ha.1
  have HSZ := Lib.hid hsz
  have HA := Lib.hid ha
  clear hsz ha
  have hmm := @run_makeMap Try.prog
  go_enter Try.func17, Try.ntmps17
  go_wp2_with fail
  go_loopw [9] (fun i wr => ∃ p : Nat, p ≤ n ∧ i = .int .i64 p ∧ Below w.heap.size w wr ∧ Hid (TextSet Try.prog 9 4 wr w.heap.size (nmsR (·.1) l p)) ∧ Hid (allN (okAt okRes (·.1) l) p = true)) (fun i _ => n - (intOf i).toNat)
  case atStart => exact ⟨0, Nat.zero_le _, rfl, by (repeat' (first | (with_reducible exact Below.refl _ _) | (with_reducible assumption) | (with_reducible refine below_drewN ?_ _) | (with_reducible refine Below.drew ?_) | (with_reducible refine Below.alloc ?_ ?_ _) | (with_reducible refine Below.setCell ?_ ?_ _) | go_size)), TextSet.made _, rfl⟩
  case round =>
    clear hmm
    obtain ⟨p, hpn, rfl, hB, hS, hok⟩ := hrel
    have hz := hB.size
    have hzS := hS.out.lt
    by_cases hlt2 : p < n
    · obtain ⟨b, o, nm, ne, er, rfl, hb1, hb2, hx, c0, c1, c2⟩ := result_at HA.out hB hlt2
      have hs1 := HSZ.out _ (List.mem_of_getElem? hx)
      have HX := Lib.hid hx
      clear hx
      obtain ⟨u, hu⟩ : ∃ u, decide (nm ∈ nmsR (·.1) l p) = u := ⟨_, rfl⟩
      have hlook := fun o => (hS.out.alloc o).look Try.underlying51 Try.underlying9 Try.underlying4 (zero_bool _) hs1 hu
      have HU := Lib.hid hu
      clear hu
      have hbad : okRes (nm, ne, er) = false → ressB l = false := fun h => ress_item HX.out (okAt_bad HX.out h)
      have HBAD := Lib.hid hbad
      clear hbad
      cases g1 : nameB (bl nm) <;> have G1 := Lib.hid g1 <;> clear g1
      · go_wp2_with (go_at_call 24; refine (c_iIsName _ _ G1.out _ hs1).mono ?_; rintro e w' ⟨rfl, rfl⟩)
        go_ret
        exact ⟨by rw [HBAD.out (by simp only [okRes, G1.out, Bool.false_and])]; rfl, by (repeat' (first | (with_reducible exact Below.refl _ _) | (with_reducible assumption) | (with_reducible refine below_drewN ?_ _) | (with_reducible refine Below.drew ?_) | (with_reducible refine Below.alloc ?_ ?_ _) | (with_reducible refine Below.setCell ?_ ?_ _) | go_size))⟩
      cases u
      rotate_left
      · go_wp2_with (go_at_call 24; refine (c_iIsName _ _ G1.out _ hs1).mono ?_; rintro e w' ⟨rfl, rfl⟩)
        go_ret
        exact ⟨by rw [ress_item HX.out (okAt_old HX.out (nmsR_mem.1 (of_decide_eq_true HU.out)))]; rfl, by (repeat' (first | (with_reducible exact Below.refl _ _) | (with_reducible assumption) | (with_reducible refine below_drewN ?_ _) | (with_reducible refine Below.drew ?_) | (with_reducible refine Below.alloc ?_ ?_ _) | (with_reducible refine Below.setCell ?_ ?_ _) | go_size))⟩
      cases g2 : betw ne 0 100000 <;> have G2 := Lib.hid g2 <;> clear g2
      · go_wp2_with (first | (go_at_call 24; refine (c_iIsName _ _ G1.out _ hs1).mono ?_; rintro e w' ⟨rfl, rfl⟩) | (go_at_call 25; refine (c_between _ _ _ _ G2.out _).mono ?_; rintro e w' ⟨rfl, rfl⟩))
        go_ret
        exact ⟨by rw [HBAD.out (by simp only [okRes, G2.out, Bool.false_and, Bool.and_false])]; rfl, by (repeat' (first | (with_reducible exact Below.refl _ _) | (with_reducible assumption) | (with_reducible refine below_drewN ?_ _) | (with_reducible refine Below.drew ?_) | (with_reducible refine Below.alloc ?_ ?_ _) | (with_reducible refine Below.setCell ?_ ?_ _) | go_size))⟩
      cases g3 : betw er 0 100000 <;> have G3 := Lib.hid g3 <;> clear g3
      · go_wp2_with (first | (go_at_call 24; refine (c_iIsName _ _ G1.out _ hs1).mono ?_; rintro e w' ⟨rfl, rfl⟩) | (go_at_call 25; first | (with_reducible refine (c_between ne _ _ _ G2.out _).mono ?_; rintro e w' ⟨rfl, rfl⟩) | (with_reducible refine (c_between er _ _ _ G3.out _).mono ?_; rintro e w' ⟨rfl, rfl⟩)))
        go_ret
        exact ⟨by rw [HBAD.out (by simp only [okRes, G3.out, Bool.and_false])]; rfl, by (repeat' (first | (with_reducible exact Below.refl _ _) | (with_reducible assumption) | (with_reducible refine below_drewN ?_ _) | (with_reducible refine Below.drew ?_) | (with_reducible refine Below.alloc ?_ ?_ _) | (with_reducible refine Below.setCell ?_ ?_ _) | go_size))⟩
      · have hlen : (nmsR (·.1) l p).length < maxLen := Nat.lt_of_le_of_lt nmsR_len (by unfold maxLen; omega)
        have HLEN := Lib.hid hlen
        clear hlen
        have HS := fun o => Lib.hid (hS.out.alloc o)
        clear hS
        go_wp2_with (first | (go_at_call 24; refine (c_iIsName _ _ G1.out _ hs1).mono ?_; rintro e w' ⟨rfl, rfl⟩) | (go_at_call 25; first | (with_reducible refine (c_between ne _ _ _ G2.out _).mono ?_; rintro e w' ⟨rfl, rfl⟩) | (with_reducible refine (c_between er _ _ _ G3.out _).mono ?_; rintro e w' ⟨rfl, rfl⟩)) | (at_mapUpdate; refine wpList_textSet _ rfl _ _ _ 51 rfl 9 4 Try.underlying51 Try.underlying9 Try.underlying4 w.heap.size _ rfl (HS _).out HLEN.out nm rfl hs1 rfl ?_; intro w1 hS1 hg1; have hB1 := below_map (by (repeat' (first | (with_reducible exact Below.refl _ _) | (with_reducible assumption) | (with_reducible refine below_drewN ?_ _) | (with_reducible refine Below.drew ?_) | (with_reducible refine Below.alloc ?_ ?_ _) | (with_reducible refine Below.setCell ?_ ?_ _) | go_size)) : Below w.heap.size w _) hg1 (Nat.le_refl _) (by simp; omega)))
        go_roundw
        case rel => exact ⟨p + 1, by omega, by go_num, hB1, by show TextSet _ _ _ _ _ (nmsR (·.1) l (p + 1)); rw [nmsR_succ HX.out]; exact hS1, allN_succ hok.out (okAt_ok HX.out (by simp only [okRes, G1.out, G2.out, G3.out]; rfl) (fun h => absurd (nmsR_mem.2 h) (of_decide_eq_false HU.out)))⟩
        case measure => simp [intOf]; omega
    · obtain rfl : p = n := by omega
      have HE := Lib.hid (ress_end HL.out hok.out)
      go_wp2_with fail
      go_ret
      exact ⟨by rw [HE.out]; rfl, hB⟩

/-- Two lists of results are the same. -/
instance decText : DecidableEq ByteArray := fun s t => decidable_of_iff (bl s = bl t) ⟨fun h => sb_ext h, fun h => by rw [h]⟩
def sameR (l m : List TResult) : Bool := decide (l = m)
theorem take_sameR {l m : List TResult} {k : Nat} {x : TResult} (hx : l[k]? = some x) (hy : m[k]? = some x) (h : l.take k = m.take k) : l.take (k + 1) = m.take (k + 1) := by
  rw [List.take_add_one, List.take_add_one, hx, hy, h]
theorem diff_sameR {l m : List TResult} {k : Nat} {x y : TResult} (hx : l[k]? = some x) (hy : m[k]? = some y) (h : x ≠ y) : sameR l m = false := by
  simp only [sameR, decide_eq_false_iff_not]
  intro e
  subst e
  rw [hx] at hy
  exact h (Option.some.inj hy)
theorem all_sameR {l m : List TResult} {n : Nat} (h1 : l.length = n) (h2 : m.length = n) (h : l.take n = m.take n) : sameR l m = true := by
  rw [List.take_of_length_le (by omega), List.take_of_length_le (by omega)] at h
  simpa [sameR] using h


end Go.Proofs.Ytkpnkilpaokkcaa
