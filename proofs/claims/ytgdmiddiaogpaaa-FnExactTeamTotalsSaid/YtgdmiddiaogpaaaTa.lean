/- Sums of fractions over teams: plain. -/
import Derived.Test.YtgdmiddiaogpaaaPo
import Derived.Test.YtgdmiddiaogpaaaQf
namespace Go.Proofs.Ytgdmiddiaogpaaa
open Go.RowKit Go.BigFrame

theorem lowN_nat (n d : Nat) : lowN (n : Int) (d : Int) = ((n / Nat.gcd n d : Nat) : Int) := by simp [lowN, gcdI]
theorem lowD_nat (n d : Nat) : lowD (n : Int) (d : Int) = ((d / Nat.gcd n d : Nat) : Int) := by simp [lowD, gcdI]
theorem low_scale (n d g : Nat) (h : 0 < g) : lowN ((n * g : Nat) : Int) ((d * g : Nat) : Int) = lowN (n : Int) (d : Int) ∧ lowD ((n * g : Nat) : Int) ((d * g : Nat) : Int) = lowD (n : Int) (d : Int) := by
  rw [lowN_nat, lowN_nat, lowD_nat, lowD_nat, Nat.gcd_mul_right, Nat.mul_div_mul_right _ _ h, Nat.mul_div_mul_right _ _ h]
  exact ⟨rfl, rfl⟩
/-- The sum of two fractions, in lowest terms. -/
def addF (a b : TFraction) : TFraction := (lowN (a.1 * b.2 + b.1 * a.2) (a.2 * b.2), lowD (a.1 * b.2 + b.1 * a.2) (a.2 * b.2))
/-- A fraction whose denominator divides M, of at most k times two millions. -/
def FOk (M k : Nat) (x : TFraction) : Prop := ∃ n d : Nat, x = ((n : Int), (d : Int)) ∧ 1 ≤ d ∧ d ∣ M ∧ n ≤ k * 2000000 * d
theorem FOk.mono {M k k' : Nat} {x : TFraction} (h : FOk M k x) (hk : k ≤ k') : FOk M k' x := by
  obtain ⟨n, d, rfl, h1, h2, h3⟩ := h
  exact ⟨n, d, rfl, h1, h2, Nat.le_trans h3 (Nat.mul_le_mul_right _ (Nat.mul_le_mul_right _ hk))⟩
theorem addF_nat (n1 d1 n2 d2 : Nat) : addF ((n1 : Int), (d1 : Int)) ((n2 : Int), (d2 : Int)) = (lowN ((n1 * d2 + n2 * d1 : Nat) : Int) ((d1 * d2 : Nat) : Int), lowD ((n1 * d2 + n2 * d1 : Nat) : Int) ((d1 * d2 : Nat) : Int)) := by
  simp [addF]
theorem addF_ok {M k : Nat} {a b : TFraction} (ha : FOk M k a) (hb : FOk M 1 b) : FOk M (k + 1) (addF a b) := by
  obtain ⟨n1, d1, rfl, p1, v1, b1⟩ := ha
  obtain ⟨n2, d2, rfl, p2, v2, b2⟩ := hb
  rw [addF_nat, lowN_nat, lowD_nat]
  have hy : 0 < d1 * d2 := Nat.mul_pos p1 p2
  have hg : 0 < Nat.gcd (n1 * d2 + n2 * d1) (d1 * d2) := Nat.gcd_pos_of_pos_right _ hy
  have hdvx := Nat.gcd_dvd_left (n1 * d2 + n2 * d1) (d1 * d2)
  have hdvy := Nat.gcd_dvd_right (n1 * d2 + n2 * d1) (d1 * d2)
  have hco := Nat.coprime_div_gcd_div_gcd hg
  have hx0 : (n1 * d2 + n2 * d1) ≤ (k + 1) * 2000000 * (d1 * d2) := by
    have e1 : n1 * d2 ≤ k * 2000000 * d1 * d2 := Nat.mul_le_mul_right _ b1
    have e2 : n2 * d1 ≤ 1 * 2000000 * d2 * d1 := Nat.mul_le_mul_right _ b2
    rw [Nat.mul_assoc] at e1 e2
    rw [Nat.mul_comm d2 d1] at e2
    rw [Nat.add_mul, Nat.add_mul]
    exact Nat.add_le_add e1 e2
  have hdm : d1 * d2 ∣ M * (n1 * d2 + n2 * d1) := by
    obtain ⟨u, rfl⟩ := v1
    obtain ⟨v, hv⟩ := v2
    refine ⟨n1 * u + n2 * v, ?_⟩
    rw [Nat.mul_add, Nat.mul_add]
    congr 1
    · rw [show d1 * u * (n1 * d2) = d1 * d2 * (n1 * u) by ac_rfl]
    · rw [hv, show d2 * v * (n2 * d1) = d1 * d2 * (n2 * v) by ac_rfl]
  generalize Nat.gcd (n1 * d2 + n2 * d1) (d1 * d2) = g at *
  generalize n1 * d2 + n2 * d1 = x at *
  generalize d1 * d2 = y at *
  obtain ⟨x', rfl⟩ := hdvx
  obtain ⟨y', rfl⟩ := hdvy
  rw [Nat.mul_div_cancel_left _ hg, Nat.mul_div_cancel_left _ hg] at hco
  rw [Nat.mul_div_cancel_left _ hg, Nat.mul_div_cancel_left _ hg]
  refine ⟨x', y', rfl, Nat.pos_of_mul_pos_left hy, ?_, ?_⟩
  · have h1 : g * y' ∣ g * (M * x') := by rw [show g * (M * x') = M * (g * x') by ac_rfl]; exact hdm
    exact hco.symm.dvd_of_dvd_mul_right (Nat.dvd_of_mul_dvd_mul_left hg h1)
  · have h1 : g * x' ≤ g * ((k + 1) * 2000000 * y') := by rw [show g * ((k + 1) * 2000000 * y') = (k + 1) * 2000000 * (g * y') by ac_rfl]; exact hx0
    exact Nat.le_of_mul_le_mul_left h1 hg

/-- The product of some numbers. -/
def prodN : List Nat → Nat
  | [] => 1
  | m :: l => m * prodN l
theorem prodN_dvd {l : List Nat} {m : Nat} (h : m ∈ l) : m ∣ prodN l := by
  induction l with
  | nil => simp at h
  | cons a l ih =>
    rcases List.mem_cons.1 h with rfl | h
    · exact Nat.dvd_mul_right _ _
    · exact Nat.dvd_trans (ih h) (Nat.dvd_mul_left _ _)
theorem cube_le : ∀ m : Fin 41, m.val * m.val * m.val ≤ 3 ^ m.val := by decide
theorem prodN_cube {l : List Nat} (h : l.sum ≤ 40) : prodN l * prodN l * prodN l ≤ 3 ^ l.sum := by
  induction l with
  | nil => simp [prodN]
  | cons a l ih =>
    rw [List.sum_cons] at h ⊢
    have h1 := cube_le ⟨a, by omega⟩
    have h2 := ih (by omega)
    rw [Nat.pow_add, prodN]
    have := Nat.mul_le_mul h1 h2
    rwa [show a * a * a * (prodN l * prodN l * prodN l) = a * prodN l * (a * prodN l) * (a * prodN l) by ac_rfl] at this
theorem prodN_bd {l : List Nat} (h : l.sum ≤ 40) : prodN l ≤ 2400000 := by
  by_cases hp : prodN l ≤ 2400000
  · exact hp
  have h0 : 2400000 ≤ prodN l := by omega
  have h1 := prodN_cube h
  have h2 : (3 : Nat) ^ l.sum ≤ 3 ^ 40 := Nat.pow_le_pow_right (by omega) h
  have h3 := Nat.mul_le_mul (Nat.mul_le_mul h0 h0) h0
  have h4 : (3 : Nat) ^ 40 < 2400000 * 2400000 * 2400000 := by decide
  omega

theorem putAll_all {α : Type} {Q : α → Prop} {out : List α} {ps : List (Nat × α)} {i : Nat} (hi : i < out.length) (hk : ∃ p ∈ ps, p.1 = i) (hq : ∀ p ∈ ps, Q p.2) : ∃ v, (putAll out ps)[i]? = some v ∧ Q v := by
  have key : ∀ (ps : List (Nat × α)) (out : List α), i < out.length → (∀ p ∈ ps, Q p.2) → ((∃ p ∈ ps, p.1 = i) ∨ ∃ v, out[i]? = some v ∧ Q v) → ∃ v, (putAll out ps)[i]? = some v ∧ Q v := by
    intro ps
    induction ps with
    | nil => rintro out _ _ (⟨p, hp, _⟩ | h); · simp at hp
             exact h
    | cons p ps ih =>
      intro out hi hq h
      rw [putAll, List.foldl_cons, ← putAll]
      refine ih _ (by simpa using hi) (fun q hq' => hq q (List.mem_cons_of_mem _ hq')) ?_
      by_cases e : p.1 = i
      · right
        exact ⟨p.2, by rw [e, List.getElem?_set_self hi], hq p (by simp)⟩
      · rcases h with ⟨q, hq1, hq2⟩ | ⟨v, hv, hqv⟩
        · rcases List.mem_cons.1 hq1 with rfl | hq1
          · exact absurd hq2 e
          · exact .inl ⟨q, hq1, hq2⟩
        · exact .inr ⟨v, by rw [List.getElem?_set_ne e]; exact hv, hqv⟩
  exact key ps out hi hq (.inl hk)

/-- The product of the groups' sizes. -/
def szM (l : List TResult) (n : Nat) : Nat := prodN ((grpL (btr l) (rkL (btr l) n)).map List.length)
theorem szM_bd (l : List TResult) (n : Nat) (h : n ≤ 40) : szM l n ≤ 2400000 := by
  have G := ginf l n
  refine prodN_bd ?_
  rw [← List.length_flatten, G.fl, G.rk.len]
  exact h
/-- The points of one place. -/
def PtOk (M : Nat) (x : TFraction) : Prop := FOk M 1 x ∧ ∃ n d : Nat, x = ((n : Int), (d : Int)) ∧ n ≤ 2000000 ∧ d ≤ 40
theorem pts_ok {l : List TResult} {t : List Int} {n i : Nat} (ht : tabB t = true) (h40 : n ≤ 40) (hi : i < n) : ∃ x, (ptsL l t n)[i]? = some x ∧ PtOk (szM l n) x := by
  have G := ginf l n
  unfold ptsL szM
  generalize grpL (btr l) (rkL (btr l) n) = gs at G ⊢
  refine putAll_all (by simpa using hi) ?_ ?_
  · have h1 := G.rk.mem hi
    rw [← G.fl] at h1
    obtain ⟨g, hg, hig⟩ := List.mem_flatten.1 h1
    obtain ⟨j, hj⟩ := List.getElem?_of_mem hg
    obtain ⟨q, hq⟩ := List.getElem?_of_mem hig
    exact ⟨_, List.mem_of_getElem? (perG_at (ptF_len t gs) hj (ptF_at hq)), rfl⟩
  · intro p hp
    rw [perG, List.mem_flatten] at hp
    obtain ⟨ps, h1, h2⟩ := hp
    obtain ⟨⟨g, j⟩, h3, rfl⟩ := List.mem_map.1 h1
    have hj : gs[j]? = some g := List.mem_zipIdx_iff_getElem?.1 h3
    obtain ⟨k, hk, rfl⟩ := List.mem_map.1 h2
    have hpos : 0 < g.length := List.length_pos_iff.2 (G.ne hj)
    have hgl := G.glen hj
    obtain ⟨s1, s2⟩ := sumT_bd ht (plc gs j) (plc gs j + g.length)
    dsimp only
    obtain ⟨s, hs⟩ : ∃ s : Nat, sumT t (plc gs j) (plc gs j + g.length) = (s : Int) := ⟨_, (Int.toNat_of_nonneg s1).symm⟩
    rw [hs] at s2 ⊢
    rw [lowN_nat, lowD_nat]
    have hgp : 0 < Nat.gcd s g.length := Nat.gcd_pos_of_pos_right _ hpos
    have e1 : s / Nat.gcd s g.length ≤ s := Nat.div_le_self _ _
    have e2 : g.length / Nat.gcd s g.length ≤ g.length := Nat.div_le_self _ _
    have e3 : 1 ≤ g.length / Nat.gcd s g.length := Nat.div_pos (Nat.gcd_le_right _ hpos) hgp
    have e4 : g.length / Nat.gcd s g.length ∣ g.length := Nat.div_dvd_of_dvd (Nat.gcd_dvd_right _ _)
    have e5 : g.length ∣ prodN (gs.map List.length) := prodN_dvd (List.mem_map.2 ⟨g, List.mem_of_getElem? hj, rfl⟩)
    refine ⟨⟨_, _, rfl, e3, Nat.dvd_trans e4 e5, by omega⟩, _, _, rfl, by omega, by omega⟩

/-- The totals of ten teams, when k results are added. -/
def totL (ts : List Int) (ps : List TFraction) : Nat → List TFraction
  | 0 => List.replicate 10 (0, 1)
  | k + 1 => (totL ts ps k).set (ts.getD k 0).toNat (addF ((totL ts ps k).getD (ts.getD k 0).toNat (0, 0)) (ps.getD k (0, 0)))
theorem totL_len (ts : List Int) (ps : List TFraction) (k : Nat) : (totL ts ps k).length = 10 := by
  induction k with
  | zero => rfl
  | succ k ih => rw [totL, List.length_set, ih]
theorem totL_succ {ts : List Int} {ps : List TFraction} {k q : Nat} {a b : TFraction} (hq : ts[k]? = some (q : Int)) (ha : (totL ts ps k)[q]? = some a) (hb : ps[k]? = some b) : totL ts ps (k + 1) = (totL ts ps k).set q (addF a b) := by
  have e1 : (ts.getD k 0).toNat = q := by rw [List.getD_eq_getElem?_getD, hq]; rfl
  have e2 : ps.getD k (0, 0) = b := by rw [List.getD_eq_getElem?_getD, hb]; rfl
  rw [totL, e1, e2, List.getD_eq_getElem?_getD, ha]; rfl
/-- Every total is such a fraction. -/
def TotOk (M k : Nat) (o : List TFraction) : Prop := o.length = 10 ∧ ∀ x ∈ o, FOk M k x
theorem TotOk.start (M : Nat) (ts : List Int) (ps : List TFraction) : TotOk M 0 (totL ts ps 0) := by
  refine ⟨rfl, fun x hx => ?_⟩
  rw [totL, List.mem_replicate] at hx
  obtain ⟨_, rfl⟩ := hx
  exact ⟨0, 1, rfl, Nat.le_refl _, Nat.one_dvd _, by omega⟩
theorem TotOk.set {M k q : Nat} {o : List TFraction} {x : TFraction} (h : TotOk M k o) (hx : FOk M (k + 1) x) : TotOk M (k + 1) (o.set q x) := by
  refine ⟨by rw [List.length_set, h.1], fun y hy => ?_⟩
  rcases List.mem_or_eq_of_mem_set hy with hy | rfl
  · exact (h.2 y hy).mono (by omega)
  · exact hx
def teamsB (l : List TResult) (ts t : List Int) : Bool := heatsB ts && decide (ts.length = l.length) && tabB t
def teamsZ (l : List TResult) (ts t : List Int) : List TFraction := if ressB l = true then (if teamsB l ts t = true then totL ts (ptsL l t l.length) l.length else []) else []
def teamsC (l : List TResult) (ts t : List Int) : Int := if ressB l = true then (if teamsB l ts t = true then 0 else 2) else 1
theorem teamsZ_len (l : List TResult) (ts t : List Int) : (teamsZ l ts t).length ≤ 10 := by
  unfold teamsZ
  split
  · split
    · rw [totL_len]; omega
    · simp
  · simp
theorem RowF.set1 {w : World} {g n : Nat} {l : List TFraction} (h : RowF w g n l) {k : Nat} (hk : k < n) (b : Int) : RowF (w.setCell ⟨g, k * 2 + 1, none⟩ (.int .i64 b)) g n (l.set k ((l.getD k (0, 0)).1, b)) := by
  refine ⟨by rw [List.length_set]; exact h.1, (h.2.set _ _).congr fun j hj => ?_⟩
  rw [fz_set (by rw [h.1]; exact hk)]
  by_cases h1 : j = k * 2 + 1
  · rw [if_pos h1, if_pos h1]
  rw [if_neg h1, if_neg h1]
  by_cases h2 : j = k * 2
  · subst h2
    rw [if_pos rfl]; unfold fz; rw [if_pos (by omega), show k * 2 / 2 = k by omega]
  rw [if_neg h2]
def rowI (k : Nat) : List TFraction := (List.range 10).map fun i => (0, if i < k then 1 else 0)
theorem rowI_set : ∀ k : Fin 10, (rowI k.val).set k.val (((rowI k.val).getD k.val (0, 0)).1, 1) = rowI (k.val + 1) := by decide

/-- A row of the call's own of n fractions, with room for c of them. -/
def RowG (w : World) (g n c : Nat) (l : List TFraction) : Prop := l.length = n ∧ n ≤ c ∧ ∃ z : Nat → Value, w.rowIs g 96 (c * 2) (fun i => if i < n * 2 then .int .i64 (fz l i) else z i)
section
variable {w w' : World} {g n c : Nat} {l : List TFraction}
theorem RowG.of_row (h : RowF w g n l) : RowG w g n n l := ⟨h.1, Nat.le_refl _, fun _ => undef, h.2.congr fun i hi => by rw [if_pos hi]⟩
theorem RowG.lt (h : RowG w g n c l) : g < w.heap.size := by obtain ⟨_, _, z, h⟩ := h; exact h.lt
theorem RowG.cell0 (h : RowG w g n c l) {i : Nat} (hi : i < n) : w.cell? ⟨g, i * 2, none⟩ = some (.int .i64 (l.getD i (0, 0)).1) := by
  obtain ⟨_, hc, z, h⟩ := h
  have := h.cell (i := i * 2) (by omega)
  rw [this, if_pos (by omega)]; unfold fz; rw [if_pos (by omega), show i * 2 / 2 = i by omega]
theorem RowG.cell1 (h : RowG w g n c l) {i : Nat} (hi : i < n) : w.cell? ⟨g, i * 2 + 1, none⟩ = some (.int .i64 (l.getD i (0, 0)).2) := by
  obtain ⟨_, hc, z, h⟩ := h
  have := h.cell (i := i * 2 + 1) (by omega)
  rw [this, if_pos (by omega)]; unfold fz; rw [if_neg (by omega), show (i * 2 + 1) / 2 = i by omega]
theorem RowG.frozen (h : RowG w g n c l) (i : Nat) : w.frozen? ⟨g, i, none⟩ = false := by obtain ⟨_, _, z, h⟩ := h; exact h.frozen i
theorem RowG.set (h : RowG w g n c l) {k : Nat} (hk : k < n) (a b : Int) : RowG ((w.setCell ⟨g, k * 2, none⟩ (.int .i64 a)).setCell ⟨g, k * 2 + 1, none⟩ (.int .i64 b)) g n c (l.set k (a, b)) := by
  obtain ⟨hl, hc, z, h⟩ := h
  refine ⟨by rw [List.length_set]; exact hl, hc, z, ((h.set _ _).set _ _).congr fun j hj => ?_⟩
  rw [fz_set (by rw [hl]; exact hk)]
  by_cases h1 : j = k * 2 + 1
  · rw [if_pos h1, if_pos (by omega), if_pos h1]
  rw [if_neg h1]
  by_cases h2 : j = k * 2
  · rw [if_pos h2, if_pos (by omega), if_neg h1, if_pos h2]
  rw [if_neg h2, if_neg h1, if_neg h2]
theorem RowG.later (h : RowG w g n c l) (hb : Below w.heap.size w w') : RowG w' g n c l := by
  have hg := h.lt
  obtain ⟨hl, hc, z, h⟩ := h
  exact ⟨hl, hc, z, h.of_block (hb.block g hg)⟩
theorem RowG.alloc (h : RowG w g n c l) (o : Obj) : RowG (w.alloc o) g n c l := h.later ((Below.refl _ _).alloc (Nat.le_refl _) _)
theorem RowG.own {base : Nat} (h : RowG w g n c l) (hb : base ≤ g) (hm : c ≤ maxLen) : w.ownsRow base 96 2 (.slice (some ⟨g, 0, none⟩) n c) n (flat fractionC l) := by
  obtain ⟨hl, hc, z, cs, h1, h2, h3⟩ := h
  have hfl := flat_length fractionC_len l
  rw [hl] at hfl
  refine ⟨hfl, .inr ⟨g, c, cs, rfl, hb, h1, hc, hm, by omega, ?_⟩⟩
  apply List.ext_getElem?
  intro i
  rw [List.getElem?_take]
  by_cases hi : i < n * 2
  · have h4 := h3 i (by omega)
    rw [if_pos hi, Array.getElem?_toList, h4]
    have hlt : i / 2 < l.length := by omega
    have hx : l[i / 2]? = some l[i / 2] := List.getElem?_eq_getElem hlt
    have hd : l.getD (i / 2) (0, 0) = l[i / 2] := by rw [List.getD_eq_getElem?_getD, hx]; rfl
    simp only [fz, hd, if_pos hi]
    by_cases h2 : i % 2 = 0
    · have := flat_get (f := fractionC) fractionC_len (j := 0) hx rfl
      rw [show i / 2 * 2 + 0 = i by omega] at this
      rw [if_pos h2, this]
    · have := flat_get (f := fractionC) fractionC_len (j := 1) hx rfl
      rw [show i / 2 * 2 + 1 = i by omega] at this
      rw [if_neg h2, this]
  · rw [if_neg hi, List.getElem?_eq_none (by omega)]
theorem RowG.of_own {base : Nat} {v : Value} (hl : l.length = n) (hn : 0 < n) (h : w.ownsRow base 96 2 v n (flat fractionC l)) : ∃ g c, v = .slice (some ⟨g, 0, none⟩) n c ∧ base ≤ g ∧ c ≤ maxLen ∧ RowG w g n c l := by
  have hfl := flat_length fractionC_len l
  rw [hl] at hfl
  rcases h.2 with ⟨h1, h2⟩ | ⟨g, cap, cur, h1, hg, hh, hnc, hcm, hcs, htk⟩
  · omega
  · refine ⟨g, cap, h1, hg, hcm, hl, hnc, fun i => cur[i]?.getD undef, cur, hh, by omega, fun i hi => ?_⟩
    dsimp only
    by_cases hin : i < n * 2
    · rw [if_pos hin]
      have h4 : (flat fractionC l)[i]? = cur[i]? := by
        rw [← htk, List.getElem?_take, if_pos hin, Array.getElem?_toList]
      rw [← h4]
      have hlt : i / 2 < l.length := by omega
      have hx : l[i / 2]? = some l[i / 2] := List.getElem?_eq_getElem hlt
      have hd : l.getD (i / 2) (0, 0) = l[i / 2] := by rw [List.getD_eq_getElem?_getD, hx]; rfl
      simp only [fz, hd]
      by_cases h2 : i % 2 = 0
      · have := flat_get (f := fractionC) fractionC_len (j := 0) hx rfl
        rw [show i / 2 * 2 + 0 = i by omega] at this
        rw [if_pos h2, this]
      · have := flat_get (f := fractionC) fractionC_len (j := 1) hx rfl
        rw [show i / 2 * 2 + 1 = i by omega] at this
        rw [if_neg h2, this]
    · rw [if_neg hin]
      have : i < cur.size := by omega
      simp [this]
end
end Go.Proofs.Ytgdmiddiaogpaaa
/- Contracts: TeamTotals. -/
namespace Go.Proofs.Ytgdmiddiaogpaaa
open Go.RowKit Go.BigFrame
attribute [local go_sem] sub_cell sub_frozen drewN_setCell

set_option maxHeartbeats 2000000 in
theorem c_l22Add (n1 d1 n2 d2 : Nat) (X Y : Int) (hxy : addF ((n1 : Int), (d1 : Int)) ((n2 : Int), (d2 : Int)) = (X, Y)) (w : World) (h1 : 1 ≤ d1) (h2 : d1 ≤ 2400000) (h3 : n1 ≤ 192000000000000) (h4 : 1 ≤ d2) (h5 : d2 ≤ 40) (h6 : n2 ≤ 2000000) :
    Calls Try.prog 79 #[.agg #[.int .i64 n1, .int .i64 d1], .agg #[.int .i64 n2, .int .i64 d2]] w fun r w' => r = .returned (.agg #[.int .i64 X, .int .i64 Y]) ∧ Below w.heap.size w w' := by
  obtain ⟨G, hG⟩ : ∃ G : Nat, Nat.gcd d1 d2 = G := ⟨_, rfl⟩
  have hGI : gcdI (d1 : Int) (d2 : Int) = (G : Int) := by rw [gcdI, Int.toNat_natCast, Int.toNat_natCast, hG]
  have hGp : 0 < G := hG ▸ Nat.gcd_pos_of_pos_left _ h1
  obtain ⟨u, hu⟩ : ∃ u, d1 = G * u := hG ▸ Nat.gcd_dvd_left d1 d2
  obtain ⟨v, hv⟩ : ∃ v, d2 = G * v := hG ▸ Nat.gcd_dvd_right d1 d2
  have hul : u ≤ d1 := hu ▸ Nat.le_mul_of_pos_left _ hGp
  have hvl : v ≤ d2 := hv ▸ Nat.le_mul_of_pos_left _ hGp
  have hup : 0 < u := by
    rcases Nat.eq_zero_or_pos u with rfl | h
    · rw [Nat.mul_zero] at hu; omega
    · exact h
  have e1 : (d1 : Int).tdiv (G : Int) = (u : Int) := by
    rw [Int.tdiv_eq_ediv_of_nonneg (by omega), hu, ← Int.natCast_ediv, Nat.mul_div_cancel_left _ hGp]
  have e2 : (d2 : Int).tdiv (G : Int) = (v : Int) := by
    rw [Int.tdiv_eq_ediv_of_nonneg (by omega), hv, ← Int.natCast_ediv, Nat.mul_div_cancel_left _ hGp]
  have e1' : (d1 : Int) / (G : Int) = (u : Int) := by rw [hu, ← Int.natCast_ediv, Nat.mul_div_cancel_left _ hGp]
  have e2' : (d2 : Int) / (G : Int) = (v : Int) := by rw [hv, ← Int.natCast_ediv, Nat.mul_div_cancel_left _ hGp]
  have HV : Hid (lowN ((n1 : Int) * v + (n2 : Int) * u) ((u : Int) * d2) = X ∧ lowD ((n1 : Int) * v + (n2 : Int) * u) ((u : Int) * d2) = Y) := by
    rw [addF_nat] at hxy
    have a1 : n1 * d2 + n2 * d1 = (n1 * v + n2 * u) * G := by
      rw [hv, hu, Nat.add_mul]; congr 1 <;> ac_rfl
    have a2 : d1 * d2 = (u * d2) * G := by rw [hu]; ac_rfl
    rw [a1, a2, (low_scale _ _ _ hGp).1, (low_scale _ _ _ hGp).2] at hxy
    have := Prod.mk.inj hxy
    push_cast at this
    exact this
  have b1 : (0 : Int) ≤ (n1 : Int) * v := by have t_ := Nat.zero_le (n1 * v); rw [← Int.natCast_mul]; omega
  have b2 : (n1 : Int) * v ≤ 7680000000000000 := by have t_ := Nat.mul_le_mul h3 (Nat.le_trans hvl h5); rw [← Int.natCast_mul]; omega
  have b3 : (0 : Int) ≤ (n2 : Int) * u := by have t_ := Nat.zero_le (n2 * u); rw [← Int.natCast_mul]; omega
  have b4 : (n2 : Int) * u ≤ 4800000000000 := by have t_ := Nat.mul_le_mul h6 (Nat.le_trans hul h2); rw [← Int.natCast_mul]; omega
  have b5 : (1 : Int) ≤ (u : Int) * d2 := by have t_ := Nat.mul_pos hup h4; rw [← Int.natCast_mul]; omega
  have b6 : (u : Int) * d2 ≤ 96000000 := by have t_ := Nat.mul_le_mul (Nat.le_trans hul h2) h5; rw [← Int.natCast_mul]; omega
  have b7 : (0 : Int) ≤ (n1 : Int) * v + (n2 : Int) * u := by omega
  have HG := Lib.hid hGI
  have g1 : (1 : Int) ≤ (G : Int) := by omega
  have g2 : (u : Int) ≤ 2400000 := by omega
  have g3 : (v : Int) ≤ 40 := by omega
  clear hxy hGI hG hu hv
  go_enter Try.func79, Try.ntmps79
  go_wp2_with (go_at_call 87; refine (c_l00Gcd _ _ _ (by omega) (by omega)).mono ?_; rw [HG.out]; rintro e w' ⟨rfl, rfl⟩)
  refine wp_region_below_tail 23 (by kernel_rfl) (by kernel_rfl) ?_
  simp only [List.take_succ_cons, List.take_zero, List.drop_succ_cons, List.drop_zero]
  repeat (go_big_quiet_step ((go_at_call 86; refine qBg (c_l02MakeB _ _ _ (by assumption) (by omega) (by assumption) (by omega)) (by simp) ?_; intro w_ h_; first | exact h_ | exact h_.below | (subst h_; exact Below.refl _ _) | (subst h_; (repeat' (first | (with_reducible exact Below.refl _ _) | (with_reducible assumption) | (with_reducible refine below_drewN ?_ _) | (with_reducible refine Below.drew ?_) | (with_reducible refine Below.alloc ?_ ?_ _) | (with_reducible refine Below.setCell ?_ ?_ _) | go_size))) | (obtain ⟨n_, rfl⟩ := h_; (repeat' (first | (with_reducible exact Below.refl _ _) | (with_reducible assumption) | (with_reducible refine below_drewN ?_ _) | (with_reducible refine Below.drew ?_) | (with_reducible refine Below.alloc ?_ ?_ _) | (with_reducible refine Below.setCell ?_ ?_ _) | go_size))))))
  refine wpQuiet_nil ?_
  intro _ hw'
  obtain ⟨⟨w9, hb9⟩, hw''⟩ := hw'
  subst hw''
  have k9_2_0 := hb9.cell (p := ⟨w.heap.size + 2, 0, none⟩) (by simp)
  simp [go_sem] at k9_2_0
  have k9_2_0f := hb9.frozen (p := ⟨w.heap.size + 2, 0, none⟩) (by simp)
  simp [go_sem] at k9_2_0f
  have k9_2_1 := hb9.cell (p := ⟨w.heap.size + 2, 1, none⟩) (by simp)
  simp [go_sem] at k9_2_1
  have k9_2_1f := hb9.frozen (p := ⟨w.heap.size + 2, 1, none⟩) (by simp)
  simp [go_sem] at k9_2_1f
  have hB := later hb9 (w := w) (by (repeat' (first | (with_reducible exact Below.refl _ _) | (with_reducible assumption) | (with_reducible refine below_drewN ?_ _) | (with_reducible refine Below.drew ?_) | (with_reducible refine Below.alloc ?_ ?_ _) | (with_reducible refine Below.setCell ?_ ?_ _) | go_size)))
  go_wp2_with fail
  refine bodyPost_ret (by simp [results, Try.results79, go_sem, *]; try rfl) rfl ?_
  exact ⟨by rw [HV.out.1, HV.out.2], by (repeat' (first | (with_reducible exact Below.refl _ _) | (with_reducible assumption) | (with_reducible refine below_drewN ?_ _) | (with_reducible refine Below.drew ?_) | (with_reducible refine Below.alloc ?_ ?_ _) | (with_reducible refine Below.setCell ?_ ?_ _) | go_size))⟩
end Go.Proofs.Ytgdmiddiaogpaaa
/- Contracts: TeamTotals, both sides. -/
namespace Go.Proofs.Ytgdmiddiaogpaaa
open Go.RowKit Go.BigFrame
attribute [local go_sem] sub_cell sub_frozen drewN_setCell

theorem flatF_snoc (k : Nat) (a b : Int) : flat fractionC (List.replicate k (a, b)) ++ (#[Value.int .i64 a, .int .i64 b] : Array Value).toList = flat fractionC (List.replicate (k + 1) (a, b)) := by
  rw [List.replicate_succ', flat, flat, List.flatMap_append]; rfl
theorem pt_nat {M : Nat} {x : TFraction} (h : PtOk M x) : ∃ n d : Nat, x = ((n : Int), (d : Int)) ∧ 1 ≤ d ∧ d ≤ 40 ∧ n ≤ 2000000 := by
  obtain ⟨⟨n, d, rfl, h1, _, _⟩, n', d', h2, h3, h4⟩ := h
  simp only [Prod.mk.injEq] at h2
  exact ⟨n, d, rfl, h1, by omega, by omega⟩
theorem fok_nat {M k : Nat} {x : TFraction} (h : FOk M k x) (hM : 0 < M) (hM2 : M ≤ 2400000) (hk : k ≤ 40) : ∃ n d : Nat, x = ((n : Int), (d : Int)) ∧ 1 ≤ d ∧ d ≤ 2400000 ∧ n ≤ 192000000000000 := by
  obtain ⟨n, d, rfl, h1, h2, h3⟩ := h
  have h4 := Nat.le_of_dvd hM h2
  refine ⟨n, d, rfl, h1, by omega, Nat.le_trans h3 ?_⟩
  exact Nat.mul_le_mul (Nat.mul_le_mul_right 2000000 hk) (Nat.le_trans h4 hM2)
theorem prodN_pos {l : List Nat} (h : ∀ m ∈ l, 0 < m) : 0 < prodN l := by
  induction l with
  | nil => exact Nat.one_pos
  | cons a l ih => exact Nat.mul_pos (h a (by simp)) (ih fun m hm => h m (by simp [hm]))
theorem szM_pos (l : List TResult) (n : Nat) : 0 < szM l n := by
  refine prodN_pos fun m hm => ?_
  obtain ⟨g, hg, rfl⟩ := List.mem_map.1 hm
  exact List.length_pos_iff.2 ((ginf l n).ok.ne g hg)

set_option maxHeartbeats 8000000 in
set_option maxRecDepth 20000 in
theorem c_sTeamTotals (A B0 A1 : Option Addr) (n c m d nt ct : Nat) (l : List TResult) (ts t : List Int) (w : World) (ha : Sl resultC w w.heap.size 3 A n l) (hh : Zs w B0 m ts) (ht : Zs w A1 nt t) (hsz : RsSz l) (hn : n ≤ 1048576) (hm : m ≤ 1048576) (hnt : nt ≤ 1048576) :
    Calls Try.prog 53 #[.slice A n c, .slice B0 m d, .slice A1 nt ct] w (FracPost (teamsZ l ts t) (teamsC l ts t) w) := by
  have HL := Lib.hid ha.1
  have HA := Lib.hid ha
  have HSZ := Lib.hid hsz
  have HH := Lib.hid hh
  have HHL := Lib.hid hh.1
  have HZ := Lib.hid ht
  clear ha hsz hh ht
  cases h1 : ressB l
  · have e1 : Hid (teamsZ l ts t = [] ∧ teamsC l ts t = 1) := by constructor <;> simp [teamsZ, teamsC, h1]
    go_enter Try.func53, Try.ntmps53
    go_wp2_with (go_at_call 58; refine (c_l22Ok _ _ _ l _ h1 _ HA.out HSZ.out hn).mono ?_; rintro r_ w1 ⟨rfl, hb1⟩)
    go_ret2
    rw [e1.out.1, e1.out.2]
    exact FracPost.err hb1
  have h40 := ress_len h1
  rw [HL.out] at h40
  have H1 := Lib.hid h1
  clear h1
  have ERR : Hid (teamsB l ts t = false → teamsZ l ts t = [] ∧ teamsC l ts t = 2) := fun h => by constructor <;> simp [teamsZ, teamsC, H1.out, h]
  go_enter Try.func53, Try.ntmps53
  go_wp2_with (go_at_call 58; refine (c_l22Ok _ _ _ l _ H1.out _ HA.out HSZ.out hn).mono ?_; rintro r_ w1 ⟨rfl, hb1⟩)
  go_loopw [8] (fun i wr => ∃ k : Nat, k ≤ m ∧ i = .int .i64 k ∧ Below w.heap.size w wr ∧ Hid (heatsB (ts.take k) = true)) (fun i _ => m - (intOf i).toNat)
  case atStart => exact ⟨0, Nat.zero_le _, rfl, hb1, rfl⟩
  case round =>
    clear hb1
    obtain ⟨k, hk, rfl, hB, hok⟩ := hrel
    rename World => wo
    by_cases hlt : k < m
    · obtain ⟨b, o, z, rfl, hb1, hb2, hx, c0⟩ := z_at HH.out hB hlt
      cases hz : betw z 0 9
      · have HX := Lib.hid (heatsB_bad hx hz)
        clear hx
        go_wp2_with (go_at_call 68; refine (c_l00In _ _ _ _ (by assumption) _).mono ?_; rintro e w' ⟨rfl, rfl⟩)
        go_ret2
        have := ERR.out (by simp [teamsB, HX.out])
        rw [this.1, this.2]
        exact FracPost.err hB
      · have HX := Lib.hid (heats_take hx hok.out hz)
        clear hx
        go_wp2_with (go_at_call 68; refine (c_l00In _ _ _ _ (by assumption) _).mono ?_; rintro e w' ⟨rfl, rfl⟩)
        go_roundw
        case rel => exact ⟨k + 1, by omega, by go_num, hB, HX⟩
        case measure => simp [intOf]; omega
    · obtain rfl : k = m := by omega
      have hall := hok.out
      rw [List.take_of_length_le (by rw [HHL.out]; exact Nat.le_refl _)] at hall
      have HALL := Lib.hid hall
      clear hall hok
      by_cases hkn : k = n
      rotate_left
      · have hq : ((k : Int) != (n : Int)) = true := by simp; omega
        have HQ : Hid (teamsB l ts t = false) := by show _ = _; simp [teamsB, HL.out, HHL.out, hkn]
        clear hkn
        go_wp2_with fail
        go_ret2
        have := ERR.out HQ.out
        rw [this.1, this.2]
        exact FracPost.err hB
      subst hkn
      have HZ1 := Lib.hid (HZ.out.later hB)
      cases h2 : tabB t
      · have HQ : Hid (teamsB l ts t = false) := by show _ = _; simp [teamsB, h2]
        have HT := Lib.hid h2
        clear h2
        go_wp2_with (go_at_call 72; refine (c_l22Table _ _ _ t _ HT.out _ HZ1.out hnt).mono ?_; rintro r_ w2 ⟨rfl, hb2⟩)
        go_ret2
        have := ERR.out HQ.out
        rw [this.1, this.2]
        exact FracPost.err (hB.trans (hb2.mono hB.size))
      have HT := Lib.hid h2
      have e1 : Hid (teamsZ l ts t = totL ts (ptsL l t k) k ∧ teamsC l ts t = 0) := by constructor <;> simp [teamsZ, teamsC, teamsB, H1.out, HALL.out, h2, HL.out, HHL.out]
      clear h2
      have hz := hB.size
      go_wp2_with (go_at_call 72; refine (c_l22Table _ _ _ t _ HT.out _ HZ1.out hnt).mono ?_; rintro r_ w2 ⟨rfl, hb2⟩; have HB2 := Lib.hid (hB.trans (hb2.mono hz)); clear hb2)
      have hz2 := HB2.out.size
      go_loopw [9, 10] (fun v i wr => ∃ q : Nat, q ≤ 10 ∧ i = .int .i64 q ∧ Below w.heap.size w wr ∧ wr.ownsRow w.heap.size 96 2 v q (flat fractionC (List.replicate q (0, 1)))) (fun _ i _ => 10 - (intOf i).toNat)
      case atStart => exact ⟨0, Nat.zero_le _, rfl, HB2.out.alloc hz2 _, own_base (World.ownsRow_made w2 #[] 0 (Nat.le_refl _) (by simp [maxLen]) rfl) hz2⟩
      case round =>
        obtain ⟨q, hq, rfl, hB3, hown⟩ := hrel
        obtain ⟨Av, cv, rfl⟩ := own_slice hown
        rename World => wi
        have hz3 := hB3.size
        have HO := Lib.hid hown
        clear hown
        by_cases hlt2 : q < 10
        · have i1 : (q : Int) < 10 := by omega
          go_wp2_with (at_builtin; refine appS (by rfl) (.tmp 43) (.tmp 45) _ (by rfl) w.heap.size 96 _ 2 16 Try.underlying57 info_Fraction (by decide) (by decide) _ _ (by rfl) (by simp [Value.oneCell']) _ _ _ (by rfl) HO.out (by rfl) (by omega) (by omega) (by omega) ?_; intro v3 w3 hown3 hb3 hg3; have HO3 := Lib.hid hown3; have HB3 := Lib.hid hb3; clear hown3 hb3 hg3)
          go_roundw
          case rel => exact ⟨q + 1, by omega, by go_num, hB3.trans HB3.out, by have := HO3.out; rwa [flatF_snoc] at this⟩
          case measure => simp [intOf]; omega
        · obtain rfl : q = 10 := by omega
          obtain ⟨g, c2, hv, hg, hc2, hrow⟩ := RowG.of_own (by simp) (by omega) HO.out
          simp only [Value.slice.injEq, true_and] at hv
          obtain ⟨rfl, rfl⟩ := hv
          have HROW := Lib.hid hrow
          have hgl := hrow.lt
          have HA3 := Lib.hid (HA.out.later hB3)
          have HZ3 := Lib.hid (HZ.out.later hB3)
          clear hrow
          go_wp2_with (go_at_call 76; refine (c_l22Points _ _ _ _ _ _ l t _ HA3.out HZ3.out HT.out h40 hnt).mono ?_; rintro r_ w4 ⟨rfl, hr4, hb4⟩; have HR4 := Lib.hid hr4; have HB4 := Lib.hid hb4; clear hr4 hb4)
          have hM1 := szM_pos l k
          have hM2 := szM_bd l k h40
          go_loopw [12] (fun i wr => ∃ j : Nat, j ≤ k ∧ i = .int .i64 j ∧ Below w.heap.size w wr ∧ RowG wr g 10 cv (totL ts (ptsL l t k) j) ∧ RowF wr wi.heap.size k (ptsL l t k) ∧ Hid (TotOk (szM l k) j (totL ts (ptsL l t k) j))) (fun i _ => k - (intOf i).toNat)
          case atStart => exact ⟨0, Nat.zero_le _, rfl, hB3.trans (HB4.out.mono hz3), HROW.out.later HB4.out, HR4.out, TotOk.start _ _ _⟩
          case round =>
            obtain ⟨j, hj, rfl, hB5, hrow, hpts, htot⟩ := hrel
            rename World => wu
            have hz5 := hB5.size
            have hgr := hrow.lt
            have hpr := hpts.lt
            by_cases hlt3 : j < k
            · obtain ⟨q, hq9, hq10⟩ := heats_num HALL.out HHL.out hlt3
              obtain ⟨b, o, z, rfl, hb1, hb2, hx, c0⟩ := z_at HH.out hB5 hlt3
              rw [hq9] at hx
              obtain rfl : (q : Int) = z := Option.some.inj hx
              obtain ⟨x2, hx2, hok2⟩ := pts_ok (l := l) HT.out h40 hlt3
              obtain ⟨n2, d2, rfl, y1, y2, y3⟩ := pt_nat hok2
              obtain ⟨x1, hx1⟩ : ∃ x, (totL ts (ptsL l t k) j)[q]? = some x := ⟨_, List.getElem?_eq_getElem (by rw [htot.out.1]; exact hq10)⟩
              have hok1 := htot.out.2 _ (List.mem_of_getElem? hx1)
              obtain ⟨n1, d1, rfl, y4, y5, y6⟩ := fok_nat hok1 hM1 hM2 (by omega)
              have r0 := hrow.cell0 hq10
              have r1 := hrow.cell1 hq10
              rw [List.getD_eq_getElem?_getD, hx1, Option.getD_some] at r0 r1
              have p0 := hpts.cell0 hlt3
              have p1 := hpts.cell1 hlt3
              rw [List.getD_eq_getElem?_getD, hx2, Option.getD_some] at p0 p1
              dsimp only at r0 r1 p0 p1
              obtain ⟨X, Y, hXY⟩ : ∃ X Y, addF ((n1 : Int), (d1 : Int)) ((n2 : Int), (d2 : Int)) = (X, Y) := ⟨_, _, rfl⟩
              have HXY := Lib.hid hXY
              have HN := Lib.hid ((totL_succ hq9 hx1 hx2).trans (by rw [hXY]))
              have HT2 := Lib.hid (htot.out.set (q := q) (addF_ok hok1 hok2.1))
              rw [HXY.out] at HT2
              have i1 : (j : Int) < k := by omega
              have i3 : (q : Int) < 10 := by omega
              have HR := Lib.hid hrow
              have HP := Lib.hid hpts
              clear hrow hpts hx hx1 hx2 hok1 hok2 hXY htot hq9
              go_wp2_with fail
              refine wp_region_below_tail 18 (by kernel_rfl) (by kernel_rfl) ?_
              simp only [List.take_succ_cons, List.take_zero, List.drop_succ_cons, List.drop_zero]
              repeat (go_big_quiet_step ((go_at_call 79; refine qBg (c_l22Add n1 d1 n2 d2 X Y HXY.out _ (by assumption) (by assumption) (by assumption) (by assumption) (by assumption) (by assumption)) (by simp) ?_; intro w_ h_; first | exact h_ | exact h_.below | (subst h_; exact Below.refl _ _) | (subst h_; (repeat' (first | (with_reducible exact Below.refl _ _) | (with_reducible assumption) | (with_reducible refine below_drewN ?_ _) | (with_reducible refine Below.drew ?_) | (with_reducible refine Below.alloc ?_ ?_ _) | (with_reducible refine Below.setCell ?_ ?_ _) | go_size))) | (obtain ⟨n_, rfl⟩ := h_; (repeat' (first | (with_reducible exact Below.refl _ _) | (with_reducible assumption) | (with_reducible refine below_drewN ?_ _) | (with_reducible refine Below.drew ?_) | (with_reducible refine Below.alloc ?_ ?_ _) | (with_reducible refine Below.setCell ?_ ?_ _) | go_size))))))
              refine wpQuiet_nil ?_
              intro _ hw'
              obtain ⟨⟨w6, hb6⟩, hw''⟩ := hw'
              subst hw''
              rename World => w6
              have HR6 := Lib.hid (HR.out.later hb6)
              have HP6 := Lib.hid (HP.out.later hb6)
              have HB6 := Lib.hid (hB5.trans (hb6.mono hz5))
              have hz6 := hb6.size
              have s0 := HR6.out.cell0 hq10
              have s1 := HR6.out.cell1 hq10
              have f0 := HR6.out.frozen (q * 2)
              have f1 := HR6.out.frozen (q * 2 + 1)
              clear hb6
              go_wp2_with fail
              go_roundw
              case rel =>
                refine ⟨j + 1, by omega, by go_num, (HB6.out.setCell (by dsimp only; omega) _).setCell (by dsimp only; omega) _, ?_, (HP6.out.far (by dsimp only; omega) _).far (by dsimp only; omega) _, ?_⟩
                · rw [HN.out]
                  exact HR6.out.set hq10 X Y
                · rw [HN.out]; exact HT2
              case measure => simp [intOf]; omega
            · obtain rfl : j = k := by omega
              go_wp2_with fail
              go_ret2
              rw [e1.out.1, e1.out.2]
              exact FracPost.mk_ (totL_len _ _ _) (hrow.own hg hc2) hB5
end Go.Proofs.Ytgdmiddiaogpaaa
/- Contract: impl.TeamTotals. -/
namespace Go.Proofs.Ytgdmiddiaogpaaa
open Go.RowKit Go.BigFrame
attribute [local go_sem] sub_cell sub_frozen drewN_setCell

set_option maxHeartbeats 8000000 in
set_option maxRecDepth 20000 in
theorem c_iTeamTotals (A B0 A1 : Option Addr) (n c m d nt ct : Nat) (l : List TResult) (ts t : List Int) (w : World) (ha : Sl resultC w w.heap.size 3 A n l) (hh : Zs w B0 m ts) (ht : Zs w A1 nt t) (hsz : RsSz l) (hn : n ≤ 1048576) (hm : m ≤ 1048576) (hnt : nt ≤ 1048576) :
    Calls Try.prog 54 #[.slice A n c, .slice B0 m d, .slice A1 nt ct] w (FracPost (teamsZ l ts t) (teamsC l ts t) w) := by
  have HL := Lib.hid ha.1
  have HA := Lib.hid ha
  have HSZ := Lib.hid hsz
  have HH := Lib.hid hh
  have HHL := Lib.hid hh.1
  have HZ := Lib.hid ht
  clear ha hsz hh ht
  cases h1 : ressB l
  · have e1 : Hid (teamsZ l ts t = [] ∧ teamsC l ts t = 1) := by constructor <;> simp [teamsZ, teamsC, h1]
    go_enter Try.func54, Try.ntmps54
    go_wp2_with (go_at_call 20; refine (c_iValidResults _ _ _ l _ h1 _ HA.out HSZ.out hn).mono ?_; rintro r_ w1 ⟨rfl, hb1⟩)
    go_ret2
    rw [e1.out.1, e1.out.2]
    exact FracPost.err hb1
  have h40 := ress_len h1
  rw [HL.out] at h40
  have H1 := Lib.hid h1
  clear h1
  cases h2 : (heatsB ts && decide (m = n))
  · have e1 : Hid (teamsZ l ts t = [] ∧ teamsC l ts t = 2) := by constructor <;> simp [teamsZ, teamsC, teamsB, H1.out, HL.out, HHL.out, h2]
    have H2 : Hid (∀ W, Zs W B0 m ts → Calls Try.prog 71 #[.slice B0 m d, .int .i64 (n : Int)] W fun e w' => e = .returned (.bool false) ∧ Below W.heap.size W w') := fun W h => c_areHeats B0 m d n ts false h2 W h hm hn
    clear h2
    go_enter Try.func54, Try.ntmps54
    go_wp2_with (first | (go_at_call 20; refine (c_iValidResults _ _ _ l _ H1.out _ HA.out HSZ.out hn).mono ?_; rintro r_ w1 ⟨rfl, hb1⟩; have HH1 := Lib.hid (HH.out.later hb1)) | (go_at_call 71; refine (H2.out _ HH1.out).mono ?_; rintro r_ w2 ⟨rfl, hb2⟩))
    go_ret2
    rw [e1.out.1, e1.out.2]
    exact FracPost.err (hb1.trans (hb2.mono hb1.size))
  have hmn : m = n := by simp only [Bool.and_eq_true, decide_eq_true_eq] at h2; exact h2.2
  have HALL : Hid (heatsB ts = true) := by simp only [Bool.and_eq_true, decide_eq_true_eq] at h2; exact h2.1
  have H2 : Hid (∀ W, Zs W B0 m ts → Calls Try.prog 71 #[.slice B0 m d, .int .i64 (n : Int)] W fun e w' => e = .returned (.bool true) ∧ Below W.heap.size W w') := fun W h => c_areHeats B0 m d n ts true h2 W h hm hn
  clear h2
  subst hmn
  cases h3 : tabB t
  · have e1 : Hid (teamsZ l ts t = [] ∧ teamsC l ts t = 2) := by constructor <;> simp [teamsZ, teamsC, teamsB, H1.out, h3]
    have HT := Lib.hid h3
    clear h3
    go_enter Try.func54, Try.ntmps54
    go_wp2_with (first | (go_at_call 20; refine (c_iValidResults _ _ _ l _ H1.out _ HA.out HSZ.out hm).mono ?_; rintro r_ w1 ⟨rfl, hb1⟩; have HH1 := Lib.hid (HH.out.later hb1); have HZ1 := Lib.hid (HZ.out.later hb1); have hz1 := hb1.size) | (go_at_call 71; refine (H2.out _ HH1.out).mono ?_; rintro r_ w2 ⟨rfl, hb2⟩; have HZ2 := Lib.hid (HZ1.out.later hb2); have HB2 := Lib.hid (hb1.trans (hb2.mono hz1)); have hz2 := HB2.out.size) | (go_at_call 74; refine (c_isPointTable _ _ _ t _ HT.out _ HZ2.out hnt).mono ?_; rintro r_ w3 ⟨rfl, hb3⟩))
    go_ret2
    rw [e1.out.1, e1.out.2]
    exact FracPost.err (HB2.out.trans (hb3.mono hz2))
  have HT := Lib.hid h3
  have e1 : Hid (teamsZ l ts t = totL ts (ptsL l t m) m ∧ teamsC l ts t = 0) := by constructor <;> simp [teamsZ, teamsC, teamsB, H1.out, HALL.out, h3, HL.out, HHL.out]
  clear h3
  have hmk : ∀ w, (Instr.makeSlice 57 (.int .i64 10) (.int .i64 10)).run Try.prog w = .ok (.slice (some ⟨w.heap.size, 0, none⟩) 10 10) (w.alloc (.cells (madeCells (Value.cells (.agg #[.int .i64 0, .int .i64 0])) (10 * 2)) 96)) := fun w => run_makeF 10 (by omega) w
  go_enter Try.func54, Try.ntmps54
  go_wp2_with (first | (go_at_call 20; refine (c_iValidResults _ _ _ l _ H1.out _ HA.out HSZ.out hm).mono ?_; rintro r_ w1 ⟨rfl, hb1⟩; have HH1 := Lib.hid (HH.out.later hb1); have HZ1 := Lib.hid (HZ.out.later hb1); have hz1 := hb1.size) | (go_at_call 71; refine (H2.out _ HH1.out).mono ?_; rintro r_ w2 ⟨rfl, hb2⟩; have HZ2 := Lib.hid (HZ1.out.later hb2); have HB2 := Lib.hid (hb1.trans (hb2.mono hz1)); have hz2 := HB2.out.size) | (go_at_call 74; refine (c_isPointTable _ _ _ t _ HT.out _ HZ2.out hnt).mono ?_; rintro r_ w3 ⟨rfl, hb3⟩; have HB3 := Lib.hid (HB2.out.trans (hb3.mono hz2)); have hz3 := HB3.out.size))
  clear hmk
  clear hb1 hb2 hb3
  go_loopw [29] (fun i wr => ∃ q : Nat, q ≤ 10 ∧ i = .int .i64 q ∧ Below w.heap.size w wr ∧ RowF wr w3.heap.size 10 (rowI q)) (fun i _ => 10 - (intOf i).toNat)
  case atStart => exact ⟨0, Nat.zero_le _, rfl, HB3.out.alloc hz3 _, RowF.made w3 10⟩
  case round =>
    obtain ⟨q, hq, rfl, hB4, hrow⟩ := hrel
    rename World => wi
    have hz4 := hB4.size
    have hgl := hrow.lt
    by_cases hlt : q < 10
    · have r1 := hrow.cell1 hlt
      have f1 := hrow.frozen (q * 2 + 1)
      have i1 : (q : Int) < 10 := by omega
      have HR := Lib.hid hrow
      clear hrow
      go_wp2_with fail
      go_roundw
      case rel => exact ⟨q + 1, by omega, by go_num, hB4.setCell (by dsimp only; omega) _, by have := HR.out.set1 hlt 1; rwa [rowI_set ⟨q, hlt⟩] at this⟩
      case measure => simp [intOf]; omega
    · obtain rfl : q = 10 := by omega
      have HROW := Lib.hid hrow
      have HA4 := Lib.hid (HA.out.later hB4)
      have HZ4 := Lib.hid (HZ.out.later hB4)
      clear hrow
      go_wp2_with (go_at_call 77; refine (c_pointsOf _ _ _ _ _ _ l t _ HA4.out HZ4.out HT.out h40 hnt).mono ?_; rintro r_ w4 ⟨rfl, hr4, hb4⟩; have HR4 := Lib.hid hr4; have HB4 := Lib.hid hb4; clear hr4 hb4)
      have hM1 := szM_pos l m
      have hM2 := szM_bd l m h40
      go_loopw [41] (fun i wr => ∃ j : Nat, j ≤ m ∧ i = .int .i64 j ∧ Below w.heap.size w wr ∧ RowF wr w3.heap.size 10 (totL ts (ptsL l t m) j) ∧ RowF wr wi.heap.size m (ptsL l t m) ∧ Hid (TotOk (szM l m) j (totL ts (ptsL l t m) j))) (fun i _ => m - (intOf i).toNat)
      case atStart => exact ⟨0, Nat.zero_le _, rfl, hB4.trans (HB4.out.mono hz4), HROW.out.later HB4.out, HR4.out, TotOk.start _ _ _⟩
      case round =>
        obtain ⟨j, hj, rfl, hB5, hrow, hpts, htot⟩ := hrel
        rename World => wu
        have hz5 := hB5.size
        have hgr := hrow.lt
        have hpr := hpts.lt
        by_cases hlt3 : j < m
        · obtain ⟨q, hq9, hq10⟩ := heats_num HALL.out HHL.out hlt3
          obtain ⟨b, o, z, rfl, hb1, hb2, hx, c0⟩ := z_at HH.out hB5 hlt3
          rw [hq9] at hx
          obtain rfl : (q : Int) = z := Option.some.inj hx
          obtain ⟨x2, hx2, hok2⟩ := pts_ok (l := l) HT.out h40 hlt3
          obtain ⟨n2, d2, rfl, y1, y2, y3⟩ := pt_nat hok2
          obtain ⟨x1, hx1⟩ : ∃ x, (totL ts (ptsL l t m) j)[q]? = some x := ⟨_, List.getElem?_eq_getElem (by rw [htot.out.1]; exact hq10)⟩
          have hok1 := htot.out.2 _ (List.mem_of_getElem? hx1)
          obtain ⟨n1, d1, rfl, y4, y5, y6⟩ := fok_nat hok1 hM1 hM2 (by omega)
          have r0 := hrow.cell0 hq10
          have r1 := hrow.cell1 hq10
          rw [List.getD_eq_getElem?_getD, hx1, Option.getD_some] at r0 r1
          have p0 := hpts.cell0 hlt3
          have p1 := hpts.cell1 hlt3
          rw [List.getD_eq_getElem?_getD, hx2, Option.getD_some] at p0 p1
          dsimp only at r0 r1 p0 p1
          have HN := Lib.hid (totL_succ hq9 hx1 hx2)
          have HT2 := Lib.hid (htot.out.set (q := q) (addF_ok hok1 hok2.1))
          have i1 : (j : Int) < m := by omega
          have i3 : (q : Int) < 10 := by omega
          have b1 : (0 : Int) ≤ (n1 : Int) * d2 := by have t_ := Nat.zero_le (n1 * d2); rw [← Int.natCast_mul]; omega
          have b2 : (n1 : Int) * d2 ≤ 7680000000000000 := by have t_ := Nat.mul_le_mul y6 y2; rw [← Int.natCast_mul]; omega
          have b3 : (0 : Int) ≤ (n2 : Int) * d1 := by have t_ := Nat.zero_le (n2 * d1); rw [← Int.natCast_mul]; omega
          have b4 : (n2 : Int) * d1 ≤ 4800000000000 := by have t_ := Nat.mul_le_mul y3 y5; rw [← Int.natCast_mul]; omega
          have b5 : (1 : Int) ≤ (d1 : Int) * d2 := by have t_ := Nat.mul_pos y4 y1; rw [← Int.natCast_mul]; omega
          have b6 : (d1 : Int) * d2 ≤ 96000000 := by have t_ := Nat.mul_le_mul y5 y2; rw [← Int.natCast_mul]; omega
          have b7 : (0 : Int) ≤ (n1 : Int) * d2 + (n2 : Int) * d1 := by omega
          have HR := Lib.hid hrow
          have HP := Lib.hid hpts
          clear hrow hpts hx hx1 hx2 hok1 hok2 htot hq9
          have hbx1 : b < wu.heap.size + 1 + 1 := by omega
          have hbx2 : b < wu.heap.size + 2 := by omega
          have hbx3 : b < wu.heap.size + 1 := by omega
          go_wp2_with fail
          refine wp_region_below_tail 23 (by kernel_rfl) (by kernel_rfl) ?_
          simp only [List.take_succ_cons, List.take_zero, List.drop_succ_cons, List.drop_zero]
          repeat (go_big_quiet_step ((go_at_call 80; refine qBg (c_lowestB _ _ _ (by assumption) (by omega) (by assumption) (by omega)) (by simp) ?_; intro w_ h_; first | exact h_ | exact h_.below | (subst h_; exact Below.refl _ _) | (subst h_; (repeat' (first | (with_reducible exact Below.refl _ _) | (with_reducible assumption) | (with_reducible refine below_drewN ?_ _) | (with_reducible refine Below.drew ?_) | (with_reducible refine Below.alloc ?_ ?_ _) | (with_reducible refine Below.setCell ?_ ?_ _) | go_size))) | (obtain ⟨n_, rfl⟩ := h_; (repeat' (first | (with_reducible exact Below.refl _ _) | (with_reducible assumption) | (with_reducible refine below_drewN ?_ _) | (with_reducible refine Below.drew ?_) | (with_reducible refine Below.alloc ?_ ?_ _) | (with_reducible refine Below.setCell ?_ ?_ _) | go_size))))))
          refine wpQuiet_nil ?_
          intro _ hw'
          obtain ⟨⟨w6, hb6⟩, hw''⟩ := hw'
          subst hw''
          rename World => w6
          have hz6 := hb6.size
          simp only [World.size_alloc] at hz6
          have HR6 := Lib.hid (((HR.out.alloc _).alloc _).later hb6)
          have HP6 := Lib.hid (((HP.out.alloc _).alloc _).later hb6)
          have HB6 := Lib.hid (((hB5.alloc hz5 _).alloc (by simp; omega) _).trans (hb6.mono (by simp; omega)))
          have s0 := HR6.out.cell0 hq10
          have s1 := HR6.out.cell1 hq10
          have f0 := HR6.out.frozen (q * 2)
          have f1 := HR6.out.frozen (q * 2 + 1)
          clear hb6
          go_wp2_with fail
          go_roundw
          case rel =>
            refine ⟨j + 1, by omega, by go_num, (HB6.out.setCell (by dsimp only; omega) _).setCell (by dsimp only; omega) _, ?_, (HP6.out.far (by dsimp only; omega) _).far (by dsimp only; omega) _, ?_⟩
            · rw [HN.out]
              exact HR6.out.set hq10 _ _
            · rw [HN.out]; exact HT2
          case measure => simp [intOf]; omega
        · obtain rfl : j = m := by omega
          go_wp2_with fail
          go_ret2
          rw [e1.out.1, e1.out.2]
          exact FracPost.mk_ (totL_len _ _ _) (hrow.own hz3 (by simp only [maxLen]; omega)) hB5
end Go.Proofs.Ytgdmiddiaogpaaa
