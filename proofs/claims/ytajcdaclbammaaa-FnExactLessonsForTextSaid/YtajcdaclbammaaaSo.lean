/- Bytes in rising order: the sorted list of a set of bytes, one byte put in its place. Plain facts, no program in sight. -/
import Derived.Test.YtajcdaclbammaaaFw
namespace Go.Proofs.Ytajcdaclbammaaa
theorem Rsg_uniq {n : Int} : ∀ {lo : Int} {a b : List Int}, Rsg n lo a → Rsg n lo b → (∀ x, x ∈ a ↔ x ∈ b) → a = b
  | _, [], [], _, _, _ => rfl
  | _, [], y :: t, _, _, h => by have := (h y).2 (by simp); cases this
  | _, x :: s, [], _, _, h => by have := (h x).1 (by simp); cases this
  | lo, x :: s, y :: t, h1, h2, h => by
    have e : x = y := by
      by_cases e : x = y
      · exact e
      · have hx : x ∈ y :: t := (h x).1 (by simp)
        have hy : y ∈ x :: s := (h y).2 (by simp)
        rcases List.mem_cons.1 hx with h3 | h3
        · exact absurd h3 e
        rcases List.mem_cons.1 hy with h4 | h4
        · exact absurd h4.symm e
        have := (Rsg_mem h2.2.2 x h3).1
        have := (Rsg_mem h1.2.2 y h4).1
        omega
    subst e
    have e2 : s = t := Rsg_uniq h1.2.2 h2.2.2 fun z => by
      constructor
      · intro hz
        have := (h z).1 (by simp [hz])
        rcases List.mem_cons.1 this with rfl | h3
        · have := (Rsg_mem h1.2.2 _ hz).1; omega
        · exact h3
      · intro hz
        have := (h z).2 (by simp [hz])
        rcases List.mem_cons.1 this with rfl | h3
        · have := (Rsg_mem h2.2.2 _ hz).1; omega
        · exact h3
    rw [e2]
def byZ (l : List UInt8) : List Int := l.map fun c => (c.toNat : Int)
theorem byZ_inj : ∀ {a b : List UInt8}, byZ a = byZ b → a = b
  | [], [], _ => rfl
  | [], _ :: _, h => by simp [byZ] at h
  | _ :: _, [], h => by simp [byZ] at h
  | x :: s, y :: t, h => by
    simp only [byZ, List.map_cons, List.cons.injEq] at h
    have e1 : x = y := UInt8.toNat_inj.1 (by omega)
    have e2 : s = t := byZ_inj h.2
    rw [e1, e2]
theorem byZ_mem {l : List UInt8} {c : UInt8} : (c.toNat : Int) ∈ byZ l ↔ c ∈ l := by
  simp only [byZ, List.mem_map]
  constructor
  · rintro ⟨d, hd, he⟩
    rw [← UInt8.toNat_inj.1 (show d.toNat = c.toNat by omega)]
    exact hd
  · exact fun h => ⟨c, h, rfl⟩
/-- Bytes that rise. -/
def Srt (l : List UInt8) : Prop := Rsg 256 0 (byZ l)
theorem Srt.uniq {a b : List UInt8} (ha : Srt a) (hb : Srt b) (h : ∀ c, c ∈ a ↔ c ∈ b) : a = b := by
  refine byZ_inj (Rsg_uniq ha hb fun x => ?_)
  constructor
  · intro hx
    obtain ⟨c, hc, rfl⟩ := List.mem_map.1 hx
    exact byZ_mem.2 ((h c).1 hc)
  · intro hx
    obtain ⟨c, hc, rfl⟩ := List.mem_map.1 hx
    exact byZ_mem.2 ((h c).2 hc)
/-- The bytes below k that have a mark, in their order. -/
def srtN (p : UInt8 → Bool) : Nat → List UInt8
  | 0 => []
  | k + 1 => if p (UInt8.ofNat k) = true then srtN p k ++ [UInt8.ofNat k] else srtN p k
def srt (p : UInt8 → Bool) : List UInt8 := srtN p 256
theorem u8_of (k : Nat) (h : k < 256) : (UInt8.ofNat k).toNat = k := by simp; omega
theorem srtN_rsg (p : UInt8 → Bool) (k : Nat) (hk : k ≤ 256) : Rsg k 0 (byZ (srtN p k)) := by
  induction k with
  | zero => trivial
  | succ k ih =>
    simp only [srtN]
    split
    · have := Rsg_snoc (k := (k : Int)) (ih (by omega)) (by omega)
      simp only [byZ, List.map_append, List.map_cons, List.map_nil, u8_of k (by omega)]
      exact this
    · exact Rsg_mono (by omega) (ih (by omega))
theorem srtN_mem {p : UInt8 → Bool} {k : Nat} (hk : k ≤ 256) {c : UInt8} : c ∈ srtN p k ↔ c.toNat < k ∧ p c = true := by
  induction k with
  | zero => simp [srtN]
  | succ k ih =>
    have ih := ih (by omega)
    have e : c = UInt8.ofNat k ↔ c.toNat = k := by
      rw [← UInt8.toNat_inj, u8_of k (by omega)]
    by_cases hc : c.toNat = k
    · have hc' := e.2 hc
      subst hc'
      simp only [srtN]
      cases hp : p (UInt8.ofNat k)
      · simp only [Bool.false_eq_true, if_false, and_false, iff_false]
        intro h; have := (ih.1 h).1; omega
      · simp [hc]
    · have : c ∈ srtN p (k + 1) ↔ c ∈ srtN p k := by
        simp only [srtN]
        split
        · simp; exact fun h => absurd (e.1 h) hc
        · exact Iff.rfl
      rw [this, ih]
      constructor
      · rintro ⟨h1, h2⟩; exact ⟨by omega, h2⟩
      · rintro ⟨h1, h2⟩; exact ⟨by omega, h2⟩
theorem srt_srt (p : UInt8 → Bool) : Srt (srt p) := srtN_rsg p 256 (Nat.le_refl _)
theorem srt_mem {p : UInt8 → Bool} {c : UInt8} : c ∈ srt p ↔ p c = true := by
  unfold srt
  rw [srtN_mem (Nat.le_refl _)]
  have := UInt8.toNat_lt c
  exact ⟨fun h => h.2, fun h => ⟨this, h⟩⟩
theorem srt_eq {l : List UInt8} {p : UInt8 → Bool} (hl : Srt l) (h : ∀ c, c ∈ l ↔ p c = true) : l = srt p := hl.uniq (srt_srt p) fun c => (h c).trans srt_mem.symm
theorem srt_len (p : UInt8 → Bool) : (srt p).length ≤ 256 := by
  have := Rsg_len (srt_srt p) (by omega)
  simp only [byZ, List.length_map] at this
  omega
/-- A byte put in its place. -/
theorem put_rsg {n : Int} {c : Int} (hn : c < n) : ∀ (k : Nat) {lo : Int} {l : List Int}, Rsg n lo l → lo ≤ c → k ≤ l.length → (∀ i x, i < k → l[i]? = some x → x < c) → (∀ x, l[k]? = some x → c < x) → Rsg n lo (l.take k ++ c :: l.drop k)
  | 0, lo, l, h, hlo, _, _, h2 => by
    simp only [List.take_zero, List.nil_append, List.drop_zero]
    cases l with
    | nil => exact ⟨hlo, hn, trivial⟩
    | cons x t => exact ⟨hlo, hn, by have := h2 x rfl; exact ⟨by omega, h.2⟩⟩
  | k + 1, lo, [], _, _, hk, _, _ => by simp at hk
  | k + 1, lo, x :: t, h, hlo, hk, h1, h2 => by
    simp only [List.take_succ_cons, List.drop_succ_cons, List.cons_append]
    have hx := h1 0 x (by omega) rfl
    exact ⟨h.1, h.2.1, put_rsg hn k h.2.2 (by omega) (by simpa using hk) (fun i y hi hy => h1 (i + 1) y (by omega) (by simpa using hy)) (fun y hy => h2 y (by simpa using hy))⟩
theorem put_srt {l : List UInt8} {c : UInt8} {k : Nat} (hl : Srt l) (hk : k ≤ l.length) (h1 : ∀ i x, i < k → l[i]? = some x → (x.toNat : Int) < c.toNat) (h2 : ∀ x, l[k]? = some x → (c.toNat : Int) < x.toNat) : Srt (l.take k ++ c :: l.drop k) := by
  have hc := UInt8.toNat_lt c
  have e : byZ (l.take k ++ c :: l.drop k) = (byZ l).take k ++ (c.toNat : Int) :: (byZ l).drop k := by simp [byZ, List.map_take, List.map_drop]
  unfold Srt
  rw [e]
  refine put_rsg (by omega) k hl (by omega) (by simpa [byZ] using hk) (fun i x hi hx => ?_) (fun x hx => ?_)
  · simp only [byZ, List.getElem?_map, Option.map_eq_some_iff] at hx
    obtain ⟨y, hy, rfl⟩ := hx
    exact h1 i y hi hy
  · simp only [byZ, List.getElem?_map, Option.map_eq_some_iff] at hx
    obtain ⟨y, hy, rfl⟩ := hx
    exact h2 y hy
/-- .. is the list with one byte more; and where it stands already, nothing changes. -/
theorem put_new {S : List UInt8} {c : UInt8} {k : Nat} {l : List UInt8} (hl : l = srt fun x => decide (x ∈ S)) (hk : k ≤ l.length) (h1 : ∀ i x, i < k → l[i]? = some x → (x.toNat : Int) < c.toNat) (h2 : ∀ x, l[k]? = some x → (c.toNat : Int) < x.toNat) : l.take k ++ c :: l.drop k = srt fun x => decide (x ∈ S ++ [c]) := by
  subst hl
  refine srt_eq (put_srt (srt_srt _) hk h1 h2) fun x => ?_
  have e : ∀ y, y ∈ (srt fun x => decide (x ∈ S)).take k ++ c :: (srt fun x => decide (x ∈ S)).drop k ↔ y = c ∨ y ∈ srt fun x => decide (x ∈ S) := by
    intro y
    conv => rhs; rw [← List.take_append_drop k (srt fun x => decide (x ∈ S))]
    simp only [List.mem_append, List.mem_cons]
    constructor
    · rintro (h | h | h)
      · exact .inr (.inl h)
      · exact .inl h
      · exact .inr (.inr h)
    · rintro (h | h | h)
      · exact .inr (.inl h)
      · exact .inl h
      · exact .inr (.inr h)
  rw [e, srt_mem]
  simp only [decide_eq_true_eq, List.mem_append, List.mem_singleton]
  exact ⟨fun h => h.symm, fun h => h.symm⟩
theorem put_old {S : List UInt8} {c : UInt8} {l : List UInt8} (hl : l = srt fun x => decide (x ∈ S)) (hc : c ∈ l) : l = srt fun x => decide (x ∈ S ++ [c]) := by
  subst hl
  refine srt_eq (srt_srt _) fun x => ?_
  rw [srt_mem] at hc ⊢
  simp only [decide_eq_true_eq, List.mem_append, List.mem_singleton] at *
  exact ⟨.inl, fun h => h.elim id (fun e => e ▸ hc)⟩
end Go.Proofs.Ytajcdaclbammaaa
