/- Contracts: how much of the needs drills train; the letters left. -/
import Derived.Test.YtnjmjopbeojfoaaDr4
namespace Go.Proofs.Ytnjmjopbeojfoaa
open Go.RowKit Go.BigFrame
attribute [local go_sem] sub_cell sub_frozen drewN_setCell

set_option maxHeartbeats 2000000 in
theorem c_covered (A B D : Option Addr) (n c m d q e : Nat) (l : List TDrill) (z : List Int) (s : ByteArray) (cs : List Int) (w : World) (ha : Sl drillC w w.heap.size 3 A n l) (hb : Zs w B m z) (hd : Zs w D q cs) (hsz : DrSz l) (hz : IdxIn n z) (hcs : CntIn cs) (hq : s.size = q) (hm : m ≤ 1048576) (hn : n ≤ 1048576) (hs : q ≤ 1048576) :
    Calls Try.prog 61 #[.slice A n c, .slice B m d, .string s, .slice D q e] w fun r w' => r = .returned (.int .i64 (covS l z (bl s) cs)) ∧ Below w.heap.size w w' := by
  have HC := Lib.hid hcs
  have HT := Lib.hid (c_trained A B n c m d l z w ha hb hsz hz hm hn)
  have HDD := Lib.hid (fun (W : World) (hW : Below w.heap.size w W) => hd.later hW)
  clear ha hb hz hsz hd hcs
  subst hq
  go_enter Try.func61, Try.ntmps61
  go_wp2_with (go_at_call 73; refine HT.out.mono ?_; rintro r_ w1 ⟨rfl, hR, hb1⟩)
  go_loopw [9, 17] (fun u i wr => ∃ k nd : Nat, ∃ v : Int, k ≤ s.size ∧ i = .int .i64 k ∧ u = .int .i64 v ∧ wr = w1.drewN nd ∧ 0 ≤ v ∧ v ≤ 1000 * k ∧ Hid (covN l z (bl s) cs k = v)) (fun _ i _ => s.size - (intOf i).toNat)
  case atStart => exact ⟨0, 0, 0, Nat.zero_le _, rfl, rfl, rfl, by omega, by omega, rfl⟩
  case round =>
    obtain ⟨k, nd, v, hk, rfl, rfl, rfl, hv0, hv1, hv⟩ := hrel
    by_cases hlt : k < s.size
    · obtain ⟨b, o, x, rfl, hb1', hb2, hx, c0⟩ := z_at (HDD.out _ hb1) (Below.refl _ _) hlt
      obtain ⟨hx0, hx1⟩ := HC.out x (List.mem_of_getElem? hx)
      have hst := covN_step (l := l) (z := z) (bl_get s k hlt) hx
      rw [hv.out] at hst
      have hltI : (k : Int) < s.size := by omega
      have hk0 : (0 : Int) ≤ (k : Int) := by omega
      have hc256 := u8_lt s[k]
      have hcI : (s[k].toNat : Int) < 256 := by omega
      have hc0 : (0 : Int) ≤ (s[k].toNat : Int) := by omega
      have r0 := hR.cell hc256
      rw [mk_byte, ← trB_mem] at r0
      have HR := Lib.hid hR
      cases g : trB l z s[k] <;> rw [g] at hst r0 <;> have HST := Lib.hid hst <;> clear g hst hx hR
      · go_wp2_with fail
        go_quiet (fail)
        go_wp2_with fail
        go_roundw
        case rel => exact ⟨k + 1, _, v, by omega, by go_num, rfl, rfl, by omega, by omega, by have := HST.out; simp at this; exact this⟩
        case measure => simp [intOf]; omega
      · go_wp2_with fail
        go_quiet (fail)
        go_wp2_with fail
        go_roundw
        case rel => exact ⟨k + 1, _, v + x, by omega, by go_num, rfl, rfl, by omega, by omega, by have := HST.out; simp at this; exact this⟩
        case measure => simp [intOf]; omega
    · obtain rfl : k = s.size := by omega
      have H1 : Hid (covS l z (bl s) cs = v) := by show covN l z (bl s) cs (bl s).length = v; rw [bl_len]; exact hv.out
      clear hv hR
      go_wp2_with fail
      go_ret
      exact ⟨by rw [H1.out]; rfl, by (repeat' (first | (with_reducible exact Below.refl _ _) | (with_reducible assumption) | (with_reducible refine below_drewN ?_ _) | (with_reducible refine Below.drew ?_) | (with_reducible refine Below.alloc ?_ ?_ _) | (with_reducible refine Below.setCell ?_ ?_ _) | go_size))⟩
set_option maxHeartbeats 2000000 in
theorem c_left (A B : Option Addr) (n c m d : Nat) (l : List TDrill) (z : List Int) (s : ByteArray) (w : World) (ha : Sl drillC w w.heap.size 3 A n l) (hb : Zs w B m z) (hsz : DrSz l) (hz : IdxIn n z) (hm : m ≤ 1048576) (hn : n ≤ 1048576) (hs : s.size ≤ 1048576) :
    Calls Try.prog 59 #[.slice A n c, .slice B m d, .string s] w fun r w' => r = .returned (.string (sb (leftL l z (bl s)))) ∧ Below w.heap.size w w' := by
  have HT := Lib.hid (fun (W : World) (hW : Below w.heap.size w W) => c_trained A B n c m d l z W (ha.later hW) (hb.later hW) hsz hz hm hn)
  clear ha hb hz hsz
  go_enter Try.func59, Try.ntmps59
  go_wp2_with (go_at_call 73; refine (HT.out _ (by (repeat' (first | (with_reducible exact Below.refl _ _) | (with_reducible assumption) | (with_reducible refine below_drewN ?_ _) | (with_reducible refine Below.drew ?_) | (with_reducible refine Below.alloc ?_ ?_ _) | (with_reducible refine Below.setCell ?_ ?_ _) | go_size)))).mono ?_; rintro r_ w1 ⟨rfl, hR, hb1⟩; have hB1 := later hb1 (w := w) (by (repeat' (first | (with_reducible exact Below.refl _ _) | (with_reducible assumption) | (with_reducible refine below_drewN ?_ _) | (with_reducible refine Below.drew ?_) | (with_reducible refine Below.alloc ?_ ?_ _) | (with_reducible refine Below.setCell ?_ ?_ _) | go_size))); have hBR : Hid (BRow w1 w.heap.size (.slice (some ⟨w.heap.size, 0, none⟩) 0 0) []) := (BRow.made w).later hb1; clear hb1)
  have hszR := hR.lt
  have HR0 := Lib.hid hR
  clear hR
  go_loopw [7, 16] (fun v i wr => ∃ k : Nat, k ≤ s.size ∧ i = .int .i64 k ∧ Below w.heap.size w wr ∧ Hid (wr.rowIs (w.heap.size + 1) 85 256 (mk (z.flatMap (ltAt l)))) ∧ Hid (BRow wr w.heap.size v (((bl s).take k).filter fun c => !trB l z c))) (fun _ i _ => s.size - (intOf i).toNat)
  case atStart => exact ⟨0, Nat.zero_le _, rfl, hB1, by show World.rowIs _ _ _ _ _; have := HR0.out; simpa using this, hBR.out⟩
  case round =>
    obtain ⟨k, hk, rfl, hB, hR, hrow⟩ := hrel
    have hz := hB.size
    by_cases hlt : k < s.size
    · have hg := filter_step (p := fun c => !trB l z c) (bl_get s k hlt)
      have hln := List.length_filter_le (fun c => !trB l z c) ((bl s).take k)
      rw [List.length_take] at hln
      have hln2 : (((bl s).take k).filter fun c => !trB l z c).length + 1 ≤ 1099511627776 := by omega
      have HLN := Lib.hid hln2
      have hltI : (k : Int) < s.size := by omega
      have hk0 : (0 : Int) ≤ (k : Int) := by omega
      have hc256 := u8_lt s[k]
      have hcI : (s[k].toNat : Int) < 256 := by omega
      have hc0 : (0 : Int) ≤ (s[k].toNat : Int) := by omega
      have r0 := hR.out.cell hc256
      rw [mk_byte, ← trB_mem] at r0
      have hrl := hR.out.lt
      cases g : trB l z s[k] <;> rw [g] at hg r0 <;> have HG := Lib.hid hg <;> clear g hg hln hln2
      · go_wp2_with fail
        go_quiet (fail)
        have hrow2 := Lib.hid (hrow.out.later (below_drewN (Below.refl _ _) nq))
        have hR2 : Hid ((wr.drewN nq).rowIs (w.heap.size + 1) 85 256 (mk (z.flatMap (ltAt l)))) := hR.out
        go_wp2_with (at_builtin; refine app1 rfl (.tmp 27) (.tmp 31) _ rfl w.heap.size 5 _ 1 Try.underlying62 info_uint8 rfl _ _ rfl _ _ _ rfl hrow2.out rfl HLN.out (by omega) hz ?_; intro v' w2 hown2 hb2 hg2)
        go_roundw
        case rel => exact ⟨k + 1, by omega, by go_num, (below_drewN hB _).trans hb2, row_grown hR2.out hg2 (own_ne_row hrow2.out hR2.out (by decide)), by show BRow _ _ _ (((bl s).take (k + 1)).filter _); rw [HG.out]; exact BRow.snoc hown2⟩
        case measure => simp [intOf]; omega
      · go_wp2_with fail
        go_quiet (fail)
        have hrow2 := Lib.hid (hrow.out.later (below_drewN (Below.refl _ _) nq))
        have hR2 : Hid ((wr.drewN nq).rowIs (w.heap.size + 1) 85 256 (mk (z.flatMap (ltAt l)))) := hR.out
        go_wp2_with fail
        go_roundw
        case rel => exact ⟨k + 1, by omega, by go_num, below_drewN hB _, hR2.out, by show BRow _ _ _ (((bl s).take (k + 1)).filter _); rw [HG.out]; simpa using hrow2.out⟩
        case measure => simp [intOf]; omega
    · obtain rfl : k = s.size := by omega
      have h1 := hrow.out
      rw [List.take_of_length_le (by rw [bl_len]; omega)] at h1
      have hconv := h1.text
      clear h1 hrow hR
      go_wp2_with fail
      go_ret
      exact ⟨rfl, hB⟩

/-- What CoveredBy says. -/
def covOk (l : List TDrill) (s : List UInt8) (cs : List Int) : Bool := drsB l && needB s cs
def covC (l : List TDrill) (z : List Int) (s : List UInt8) (cs : List Int) : Int := if covOk l s cs then (if risesZ 0 ((l.length : Int) - 1) z then 0 else 2) else 1
def covA (l : List TDrill) (z : List Int) (s : List UInt8) (cs : List Int) : Int := if covC l z s cs = 0 then covS l z s cs else 0
theorem cov_bad {l : List TDrill} {z : List Int} {s : List UInt8} {cs : List Int} (h : drsB l = false ∨ needB s cs = false) : covA l z s cs = 0 ∧ covC l z s cs = 1 := by
  have e : covOk l s cs = false := by unfold covOk; rcases h with h | h <;> rw [h] <;> simp
  simp [covA, covC, e]
theorem cov_rng {l : List TDrill} {z : List Int} {s : List UInt8} {cs : List Int} {n : Nat} (hl : l.length = n) (h : drsB l = true) (h1 : needB s cs = true) (h2 : risesZ 0 ((n : Int) - 1) z = false) : covA l z s cs = 0 ∧ covC l z s cs = 2 := by
  subst hl
  simp [covA, covC, covOk, h, h1, h2]
theorem cov_ok {l : List TDrill} {z : List Int} {s : List UInt8} {cs : List Int} {n : Nat} (hl : l.length = n) (h : drsB l = true) (h1 : needB s cs = true) (h2 : risesZ 0 ((n : Int) - 1) z = true) : covA l z s cs = covS l z s cs ∧ covC l z s cs = 0 := by
  subst hl
  simp [covA, covC, covOk, h, h1, h2]
theorem need_ok {s : ByteArray} {cs : List Int} (h : needB (bl s) cs = true) : CntIn cs ∧ cs.length = s.size := by
  simp only [needB, Bool.and_eq_true, List.all_eq_true, decide_eq_true_eq] at h
  exact ⟨fun x hx => betw_true (h.1 x hx), by rw [h.2.2, bl_len]⟩
/-- What LettersLeft says. -/
def lleC (l : List TDrill) (z : List Int) (s : List UInt8) : Int := if drsB l && needL s then (if risesZ 0 ((l.length : Int) - 1) z then 0 else 2) else 1
def lleA (l : List TDrill) (z : List Int) (s : List UInt8) : ByteArray := if lleC l z s = 0 then sb (leftL l z s) else ⟨#[]⟩
theorem lle_bad {l : List TDrill} {z : List Int} {s : List UInt8} (h : drsB l = false ∨ needL s = false) : lleA l z s = ⟨#[]⟩ ∧ lleC l z s = 1 := by
  have e : (drsB l && needL s) = false := by rcases h with h | h <;> rw [h] <;> simp
  simp [lleA, lleC, e]
theorem lle_rng {l : List TDrill} {z : List Int} {s : List UInt8} {n : Nat} (hl : l.length = n) (h : drsB l = true) (h1 : needL s = true) (h2 : risesZ 0 ((n : Int) - 1) z = false) : lleA l z s = ⟨#[]⟩ ∧ lleC l z s = 2 := by
  subst hl
  simp [lleA, lleC, h, h1, h2]
theorem lle_ok {l : List TDrill} {z : List Int} {s : List UInt8} {n : Nat} (hl : l.length = n) (h : drsB l = true) (h1 : needL s = true) (h2 : risesZ 0 ((n : Int) - 1) z = true) : lleA l z s = sb (leftL l z s) ∧ lleC l z s = 0 := by
  subst hl
  simp [lleA, lleC, h, h1, h2]
theorem need_len {s : ByteArray} (h : needL (bl s) = true) : s.size ≤ 30 := by
  simp only [needL, Bool.and_eq_true] at h
  have := textB_len h.2
  omega

set_option maxHeartbeats 2000000 in
theorem c_sCoveredBy (A B D : Option Addr) (n c m d q e : Nat) (l : List TDrill) (z : List Int) (s : ByteArray) (cs : List Int) (w : World) (ha : Sl drillC w w.heap.size 3 A n l) (hb : Zs w B m z) (hd : Zs w D q cs) (hsz : DrSz l) (hm : m ≤ 1048576) (hn : n ≤ 1048576) (hq : q ≤ 1048576) (hs : s.size ≤ maxLen) (hc : n ≤ c) :
    Calls Try.prog 33 #[.slice A n c, .slice B m d, .string s, .slice D q e] w fun r w' => r = .returned (.tuple #[.int .i64 (covA l z (bl s) cs), .int .i64 (covC l z (bl s) cs)]) ∧ Below w.heap.size w w' := by
  have hl := ha.1
  have hlz := hd.1
  cases g : drsB l
  · obtain ⟨ea, ec⟩ := cov_bad (z := z) (s := bl s) (cs := cs) (.inl g)
    rw [ea, ec]
    clear ea ec
    have C := Lib.hid (c_l21Ok A n c l _ g w ha hsz hn hc)
    clear g ha hb hd hsz hl
    go_enter Try.func33, Try.ntmps33
    go_wp2_with (go_at_call 49; refine C.out.mono ?_; rintro r_ w1 ⟨rfl, hb1⟩)
    go_returns
    exact ⟨rfl, hb1⟩
  have C := Lib.hid (c_l21Ok A n c l _ g w ha hsz hn hc)
  cases g1 : needB (bl s) cs
  · obtain ⟨ea, ec⟩ := cov_bad (l := l) (z := z) (s := bl s) (cs := cs) (.inr g1)
    rw [ea, ec]
    clear ea ec
    have D1 := Lib.hid (fun (W : World) (hW : Below w.heap.size w W) => c_l21Needs s D q e cs _ g1 W (hd.later hW) hs hq)
    clear g g1 ha hb hd hsz hl
    go_enter Try.func33, Try.ntmps33
    go_wp2_with (first | (go_at_call 49; refine C.out.mono ?_; rintro r_ w1 ⟨rfl, hb1⟩) | (go_at_call 41; refine (D1.out _ hb1).mono ?_; rintro r_ w2 ⟨rfl, nd, rfl⟩))
    go_returns
    exact ⟨rfl, below_drewN hb1 _⟩
  have D1 := Lib.hid (fun (W : World) (hW : Below w.heap.size w W) => c_l21Needs s D q e cs _ g1 W (hd.later hW) hs hq)
  obtain ⟨hcnt, hlen⟩ := need_ok g1
  have hsq : s.size = q := by omega
  cases g2 : risesZ 0 ((n : Int) - 1) z
  · obtain ⟨ea, ec⟩ := cov_rng hl g g1 g2
    rw [ea, ec]
    clear ea ec
    have D2 := Lib.hid (fun (W : World) (hW : Below w.heap.size w W) => c_l21Some A B n c m d z _ g2 W (hb.later hW) hm hn)
    clear g g1 g2 ha hb hd hsz hl hcnt hlen hsq
    go_enter Try.func33, Try.ntmps33
    go_wp2_with (first | (go_at_call 49; refine C.out.mono ?_; rintro r_ w1 ⟨rfl, hb1⟩) | (go_at_call 41; refine (D1.out _ hb1).mono ?_; rintro r_ w2 ⟨rfl, nd, rfl⟩; have hb2 := below_drewN hb1 nd) | (go_at_call 51; refine (D2.out _ hb2).mono ?_; rintro r_ w3 ⟨rfl, nd3, rfl⟩))
    go_returns
    exact ⟨rfl, below_drewN hb1 (nd + nd3)⟩
  · obtain ⟨ea, ec⟩ := cov_ok hl g g1 g2
    rw [ea, ec]
    clear ea ec
    have D2 := Lib.hid (fun (W : World) (hW : Below w.heap.size w W) => c_l21Some A B n c m d z _ g2 W (hb.later hW) hm hn)
    have D3 := Lib.hid (fun (W : World) (hW : Below w.heap.size w W) => c_l21Covered A B D n c m d q e l z s cs W (ha.later hW) (hb.later hW) (hd.later hW) hsz (idxIn_of g2) hcnt hsq hm hn hq)
    clear g g1 g2 ha hb hd hsz hl hcnt hlen hsq
    go_enter Try.func33, Try.ntmps33
    go_wp2_with (first | (go_at_call 49; refine C.out.mono ?_; rintro r_ w1 ⟨rfl, hb1⟩) | (go_at_call 41; refine (D1.out _ hb1).mono ?_; rintro r_ w2 ⟨rfl, nd, rfl⟩; have hb2 := below_drewN hb1 nd) | (go_at_call 51; refine (D2.out _ hb2).mono ?_; rintro r_ w3 ⟨rfl, nd3, rfl⟩; have hb3 := below_drewN hb1 (nd + nd3)) | (go_at_call 60; refine (D3.out _ hb3).mono ?_; rintro r_ w4 ⟨rfl, rfl⟩; have hb4 := hb3))
    go_returns
    exact ⟨rfl, hb4⟩

set_option maxHeartbeats 2000000 in
theorem c_iCoveredBy (A B D : Option Addr) (n c m d q e : Nat) (l : List TDrill) (z : List Int) (s : ByteArray) (cs : List Int) (w : World) (ha : Sl drillC w w.heap.size 3 A n l) (hb : Zs w B m z) (hd : Zs w D q cs) (hsz : DrSz l) (hm : m ≤ 1048576) (hn : n ≤ 1048576) (hq : q ≤ 1048576) (hs : s.size ≤ maxLen) :
    Calls Try.prog 34 #[.slice A n c, .slice B m d, .string s, .slice D q e] w fun r w' => r = .returned (.tuple #[.int .i64 (covA l z (bl s) cs), .int .i64 (covC l z (bl s) cs)]) ∧ Below w.heap.size w w' := by
  have hl := ha.1
  have hlz := hd.1
  cases g : drsB l
  · obtain ⟨ea, ec⟩ := cov_bad (z := z) (s := bl s) (cs := cs) (.inl g)
    rw [ea, ec]
    clear ea ec
    have C := Lib.hid (c_iValidDrills A n c l _ g w ha hsz hn)
    clear g ha hb hd hsz hl
    go_enter Try.func34, Try.ntmps34
    go_wp2_with (go_at_call 23; refine C.out.mono ?_; rintro r_ w1 ⟨rfl, hb1⟩)
    go_returns
    exact ⟨rfl, hb1⟩
  have C := Lib.hid (c_iValidDrills A n c l _ g w ha hsz hn)
  cases g1 : needB (bl s) cs
  · obtain ⟨ea, ec⟩ := cov_bad (l := l) (z := z) (s := bl s) (cs := cs) (.inr g1)
    rw [ea, ec]
    clear ea ec
    have D1 := Lib.hid (fun (W : World) (hW : Below w.heap.size w W) => c_iValidNeeds s D q e cs _ g1 W (hd.later hW) hs hq)
    clear g g1 ha hb hd hsz hl
    go_enter Try.func34, Try.ntmps34
    go_wp2_with (first | (go_at_call 23; refine C.out.mono ?_; rintro r_ w1 ⟨rfl, hb1⟩) | (go_at_call 14; refine (D1.out _ hb1).mono ?_; rintro r_ w2 ⟨rfl, nd, rfl⟩))
    go_returns
    exact ⟨rfl, below_drewN hb1 _⟩
  have D1 := Lib.hid (fun (W : World) (hW : Below w.heap.size w W) => c_iValidNeeds s D q e cs _ g1 W (hd.later hW) hs hq)
  obtain ⟨hcnt, hlen⟩ := need_ok g1
  have hsq : s.size = q := by omega
  cases g2 : risesZ 0 ((n : Int) - 1) z
  · obtain ⟨ea, ec⟩ := cov_rng hl g g1 g2
    rw [ea, ec]
    clear ea ec
    have D2 := Lib.hid (fun (W : World) (hW : Below w.heap.size w W) => c_areIndices B m d n z _ g2 W (hb.later hW) hm hn)
    clear g g1 g2 ha hb hd hsz hl hcnt hlen hsq
    go_enter Try.func34, Try.ntmps34
    go_wp2_with (first | (go_at_call 23; refine C.out.mono ?_; rintro r_ w1 ⟨rfl, hb1⟩) | (go_at_call 14; refine (D1.out _ hb1).mono ?_; rintro r_ w2 ⟨rfl, nd, rfl⟩; have hb2 := below_drewN hb1 nd) | (go_at_call 53; refine (D2.out _ hb2).mono ?_; rintro r_ w3 ⟨rfl, rfl⟩))
    go_returns
    exact ⟨rfl, hb2⟩
  · obtain ⟨ea, ec⟩ := cov_ok hl g g1 g2
    rw [ea, ec]
    clear ea ec
    have D2 := Lib.hid (fun (W : World) (hW : Below w.heap.size w W) => c_areIndices B m d n z _ g2 W (hb.later hW) hm hn)
    have D3 := Lib.hid (fun (W : World) (hW : Below w.heap.size w W) => c_covered A B D n c m d q e l z s cs W (ha.later hW) (hb.later hW) (hd.later hW) hsz (idxIn_of g2) hcnt hsq hm hn hq)
    clear g g1 g2 ha hb hd hsz hl hcnt hlen hsq
    go_enter Try.func34, Try.ntmps34
    go_wp2_with (first | (go_at_call 23; refine C.out.mono ?_; rintro r_ w1 ⟨rfl, hb1⟩) | (go_at_call 14; refine (D1.out _ hb1).mono ?_; rintro r_ w2 ⟨rfl, nd, rfl⟩; have hb2 := below_drewN hb1 nd) | (go_at_call 53; refine (D2.out _ hb2).mono ?_; rintro r_ w3 ⟨rfl, rfl⟩; have hb3 := hb2) | (go_at_call 61; refine (D3.out _ hb3).mono ?_; rintro r_ w4 ⟨rfl, hb4_⟩; have hb4 := hb3.trans (hb4_.mono hb3.size)))
    go_returns
    exact ⟨rfl, hb4⟩

set_option maxHeartbeats 2000000 in
theorem c_sLettersLeft (A B : Option Addr) (n c m d : Nat) (l : List TDrill) (z : List Int) (s : ByteArray) (w : World) (ha : Sl drillC w w.heap.size 3 A n l) (hb : Zs w B m z) (hsz : DrSz l) (hm : m ≤ 1048576) (hn : n ≤ 1048576) (hs : s.size ≤ maxLen) (hc : n ≤ c) :
    Calls Try.prog 31 #[.slice A n c, .slice B m d, .string s] w fun r w' => r = .returned (.tuple #[.string (lleA l z (bl s)), .int .i64 (lleC l z (bl s))]) ∧ Below w.heap.size w w' := by
  have hl := ha.1
  cases g : drsB l
  · obtain ⟨ea, ec⟩ := lle_bad (z := z) (s := bl s) (.inl g)
    rw [ea, ec]
    clear ea ec
    have C := Lib.hid (c_l21Ok A n c l _ g w ha hsz hn hc)
    clear g ha hb hsz hl
    go_enter Try.func31, Try.ntmps31
    go_wp2_with (go_at_call 49; refine C.out.mono ?_; rintro r_ w1 ⟨rfl, hb1⟩)
    go_returns
    exact ⟨rfl, hb1⟩
  have C := Lib.hid (c_l21Ok A n c l _ g w ha hsz hn hc)
  cases g1 : needL (bl s)
  · obtain ⟨ea, ec⟩ := lle_bad (l := l) (z := z) (s := bl s) (.inr g1)
    rw [ea, ec]
    clear ea ec
    have D1 := Lib.hid (fun (W : World) => c_l21Letters s _ g1 W hs)
    clear g g1 ha hb hsz hl
    go_enter Try.func31, Try.ntmps31
    go_wp2_with (first | (go_at_call 49; refine C.out.mono ?_; rintro r_ w1 ⟨rfl, hb1⟩) | (go_at_call 57; refine (D1.out _).mono ?_; rintro r_ w2 ⟨rfl, nd, rfl⟩))
    go_returns
    exact ⟨rfl, below_drewN hb1 _⟩
  have D1 := Lib.hid (fun (W : World) => c_l21Letters s _ g1 W hs)
  have hsq := need_len g1
  cases g2 : risesZ 0 ((n : Int) - 1) z
  · obtain ⟨ea, ec⟩ := lle_rng hl g g1 g2
    rw [ea, ec]
    clear ea ec
    have D2 := Lib.hid (fun (W : World) (hW : Below w.heap.size w W) => c_l21Some A B n c m d z _ g2 W (hb.later hW) hm hn)
    clear g g1 g2 ha hb hsz hl
    go_enter Try.func31, Try.ntmps31
    go_wp2_with (first | (go_at_call 49; refine C.out.mono ?_; rintro r_ w1 ⟨rfl, hb1⟩) | (go_at_call 57; refine (D1.out _).mono ?_; rintro r_ w2 ⟨rfl, nd, rfl⟩; have hb2 := below_drewN hb1 nd) | (go_at_call 51; refine (D2.out _ hb2).mono ?_; rintro r_ w3 ⟨rfl, nd3, rfl⟩))
    go_returns
    exact ⟨rfl, below_drewN hb1 (nd + nd3)⟩
  · obtain ⟨ea, ec⟩ := lle_ok hl g g1 g2
    rw [ea, ec]
    clear ea ec
    have D2 := Lib.hid (fun (W : World) (hW : Below w.heap.size w W) => c_l21Some A B n c m d z _ g2 W (hb.later hW) hm hn)
    have D3 := Lib.hid (fun (W : World) (hW : Below w.heap.size w W) => c_l21Left A B n c m d l z s W (ha.later hW) (hb.later hW) hsz (idxIn_of g2) hm hn (by omega))
    clear g g1 g2 ha hb hsz hl
    go_enter Try.func31, Try.ntmps31
    go_wp2_with (first | (go_at_call 49; refine C.out.mono ?_; rintro r_ w1 ⟨rfl, hb1⟩) | (go_at_call 57; refine (D1.out _).mono ?_; rintro r_ w2 ⟨rfl, nd, rfl⟩; have hb2 := below_drewN hb1 nd) | (go_at_call 51; refine (D2.out _ hb2).mono ?_; rintro r_ w3 ⟨rfl, nd3, rfl⟩; have hb3 := below_drewN hb1 (nd + nd3)) | (go_at_call 58; refine (D3.out _ hb3).mono ?_; rintro r_ w4 ⟨rfl, hb4_⟩; have hb4 := hb3.trans (hb4_.mono hb3.size)))
    go_returns
    exact ⟨rfl, hb4⟩

set_option maxHeartbeats 2000000 in
theorem c_iLettersLeft (A B : Option Addr) (n c m d : Nat) (l : List TDrill) (z : List Int) (s : ByteArray) (w : World) (ha : Sl drillC w w.heap.size 3 A n l) (hb : Zs w B m z) (hsz : DrSz l) (hm : m ≤ 1048576) (hn : n ≤ 1048576) (hs : s.size ≤ maxLen) :
    Calls Try.prog 32 #[.slice A n c, .slice B m d, .string s] w fun r w' => r = .returned (.tuple #[.string (lleA l z (bl s)), .int .i64 (lleC l z (bl s))]) ∧ Below w.heap.size w w' := by
  have hl := ha.1
  cases g : drsB l
  · obtain ⟨ea, ec⟩ := lle_bad (z := z) (s := bl s) (.inl g)
    rw [ea, ec]
    clear ea ec
    have C := Lib.hid (c_iValidDrills A n c l _ g w ha hsz hn)
    clear g ha hb hsz hl
    go_enter Try.func32, Try.ntmps32
    go_wp2_with (go_at_call 23; refine C.out.mono ?_; rintro r_ w1 ⟨rfl, hb1⟩)
    go_returns
    exact ⟨rfl, hb1⟩
  have C := Lib.hid (c_iValidDrills A n c l _ g w ha hsz hn)
  cases g1 : needL (bl s)
  · obtain ⟨ea, ec⟩ := lle_bad (l := l) (z := z) (s := bl s) (.inr g1)
    rw [ea, ec]
    clear ea ec
    have D1 := Lib.hid (fun (W : World) => c_areNeeded s _ g1 W hs)
    clear g g1 ha hb hsz hl
    go_enter Try.func32, Try.ntmps32
    go_wp2_with (first | (go_at_call 23; refine C.out.mono ?_; rintro r_ w1 ⟨rfl, hb1⟩) | (go_at_call 43; refine (D1.out _).mono ?_; rintro r_ w2 ⟨rfl, nd, rfl⟩))
    go_returns
    exact ⟨rfl, below_drewN hb1 _⟩
  have D1 := Lib.hid (fun (W : World) => c_areNeeded s _ g1 W hs)
  have hsq := need_len g1
  cases g2 : risesZ 0 ((n : Int) - 1) z
  · obtain ⟨ea, ec⟩ := lle_rng hl g g1 g2
    rw [ea, ec]
    clear ea ec
    have D2 := Lib.hid (fun (W : World) (hW : Below w.heap.size w W) => c_areIndices B m d n z _ g2 W (hb.later hW) hm hn)
    clear g g1 g2 ha hb hsz hl
    go_enter Try.func32, Try.ntmps32
    go_wp2_with (first | (go_at_call 23; refine C.out.mono ?_; rintro r_ w1 ⟨rfl, hb1⟩) | (go_at_call 43; refine (D1.out _).mono ?_; rintro r_ w2 ⟨rfl, nd, rfl⟩; have hb2 := below_drewN hb1 nd) | (go_at_call 53; refine (D2.out _ hb2).mono ?_; rintro r_ w3 ⟨rfl, rfl⟩))
    go_returns
    exact ⟨rfl, hb2⟩
  · obtain ⟨ea, ec⟩ := lle_ok hl g g1 g2
    rw [ea, ec]
    clear ea ec
    have D2 := Lib.hid (fun (W : World) (hW : Below w.heap.size w W) => c_areIndices B m d n z _ g2 W (hb.later hW) hm hn)
    have D3 := Lib.hid (fun (W : World) (hW : Below w.heap.size w W) => c_left A B n c m d l z s W (ha.later hW) (hb.later hW) hsz (idxIn_of g2) hm hn (by omega))
    clear g g1 g2 ha hb hsz hl
    go_enter Try.func32, Try.ntmps32
    go_wp2_with (first | (go_at_call 23; refine C.out.mono ?_; rintro r_ w1 ⟨rfl, hb1⟩) | (go_at_call 43; refine (D1.out _).mono ?_; rintro r_ w2 ⟨rfl, nd, rfl⟩; have hb2 := below_drewN hb1 nd) | (go_at_call 53; refine (D2.out _ hb2).mono ?_; rintro r_ w3 ⟨rfl, rfl⟩; have hb3 := hb2) | (go_at_call 59; refine (D3.out _ hb3).mono ?_; rintro r_ w4 ⟨rfl, hb4_⟩; have hb4 := hb3.trans (hb4_.mono hb3.size)))
    go_returns
    exact ⟨rfl, hb4⟩
end Go.Proofs.Ytnjmjopbeojfoaa
