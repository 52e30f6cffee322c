/- strconv.FormatInt's contract (base 10), laid over this program: the table of numbers, and the facts that it asks. -/
import Derived.Test.YtajcdaclbammaaaDoorMem
import Derived.Shelf.Strconv.Itoa4
import Derived.Lib.LaidTab
namespace Go.Proofs.YtajcdaclbammaaaDoor
open Go.Shelf Go.RowKit

def fmRen : Ren := ⟨fun | 129 => 47 | 173 => 29 | 246 => 37 | 283 => 40 | 284 => 41 | 285 => 42 | 286 => 43 | 317 => 46 | 318 => 48 | 319 => 49 | 320 => 50 | 337 => 51 | 338 => 52 | n => n, fun | 0 => 0 | 2 => 2 | 3 => 3 | 4 => 4 | 5 => 5 | 9 => 9 | 20 => 20 | 37 => 46 | 46 => 80 | 51 => 77 | 53 => 66 | 171 => 65 | 173 => 69 | 212 => 76 | 213 => 78 | 232 => 83 | 233 => 84 | n => n, fun | 17 => 0 | 18 => 2 | 19 => 3 | n => n⟩
set_option maxRecDepth 100000 in
theorem fmLay : LaysM.n173 Tryd.prog fmRen := {
  mixed := by kernel_rfl,
  f129 := Tryd.func47.trans (congrArg some (by kernel_rfl)),
  f173 := Tryd.func29.trans (congrArg some (by kernel_rfl)),
  f246 := Tryd.func37.trans (congrArg some (by kernel_rfl)),
  f283 := Tryd.func40.trans (congrArg some (by kernel_rfl)),
  f284 := Tryd.func41.trans (congrArg some (by kernel_rfl)),
  f285 := Tryd.func42.trans (congrArg some (by kernel_rfl)),
  f286 := Tryd.func43.trans (congrArg some (by kernel_rfl)),
  f317 := Tryd.func46.trans (congrArg some (by kernel_rfl)),
  f318 := Tryd.func48.trans (congrArg some (by kernel_rfl)),
  f319 := Tryd.func49.trans (congrArg some (by kernel_rfl)),
  f320 := Tryd.func50.trans (congrArg some (by kernel_rfl)),
  f337 := Tryd.func51.trans (congrArg some (by kernel_rfl)),
  f338 := Tryd.func52.trans (congrArg some (by kernel_rfl)),
  t0 := Tryd.underlying0,
  a0 := Tryd.isAgg0,
  z0 := Tryd.sizeOf0,
  v0 := Tryd.zeroValue0,
  i0 := by kernel_rfl,
  t2 := Tryd.underlying2,
  a2 := Tryd.isAgg2,
  z2 := Tryd.sizeOf2,
  v2 := Tryd.zeroValue2,
  i2 := by kernel_rfl,
  t3 := Tryd.underlying3,
  a3 := Tryd.isAgg3,
  z3 := Tryd.sizeOf3,
  v3 := Tryd.zeroValue3,
  i3 := by kernel_rfl,
  t4 := Tryd.underlying4,
  a4 := Tryd.isAgg4,
  z4 := Tryd.sizeOf4,
  v4 := Tryd.zeroValue4,
  i4 := by kernel_rfl,
  t5 := Tryd.underlying5,
  a5 := Tryd.isAgg5,
  z5 := Tryd.sizeOf5,
  v5 := Tryd.zeroValue5,
  i5 := by kernel_rfl,
  t9 := Tryd.underlying9,
  a9 := Tryd.isAgg9,
  z9 := Tryd.sizeOf9,
  v9 := Tryd.zeroValue9,
  i9 := by kernel_rfl,
  t20 := Tryd.underlying20,
  a20 := Tryd.isAgg20,
  z20 := Tryd.sizeOf20,
  v20 := Tryd.zeroValue20,
  i20 := by kernel_rfl,
  t37 := Tryd.underlying46,
  a37 := Tryd.isAgg46,
  z37 := Tryd.sizeOf46,
  v37 := Tryd.zeroValue46,
  i37 := by kernel_rfl,
  t46 := Tryd.underlying80,
  a46 := Tryd.isAgg80,
  z46 := Tryd.sizeOf80,
  v46 := Tryd.zeroValue80,
  i46 := by kernel_rfl,
  t51 := Tryd.underlying77,
  a51 := Tryd.isAgg77,
  z51 := Tryd.sizeOf77,
  v51 := Tryd.zeroValue77,
  i51 := by kernel_rfl,
  t53 := Tryd.underlying66,
  a53 := Tryd.isAgg66,
  z53 := Tryd.sizeOf66,
  v53 := Tryd.zeroValue66,
  i53 := by kernel_rfl,
  t171 := Tryd.underlying65,
  a171 := Tryd.isAgg65,
  z171 := Tryd.sizeOf65,
  v171 := Tryd.zeroValue65,
  i171 := by kernel_rfl,
  t173 := Tryd.underlying69,
  a173 := Tryd.isAgg69,
  z173 := Tryd.sizeOf69,
  v173 := Tryd.zeroValue69,
  i173 := by kernel_rfl,
  t212 := Tryd.underlying76,
  a212 := Tryd.isAgg76,
  z212 := Tryd.sizeOf76,
  v212 := Tryd.zeroValue76,
  i212 := by kernel_rfl,
  t213 := Tryd.underlying78,
  a213 := Tryd.isAgg78,
  z213 := Tryd.sizeOf78,
  t232 := Tryd.underlying83,
  a232 := Tryd.isAgg83,
  z232 := Tryd.sizeOf83,
  v232 := Tryd.zeroValue83,
  i232 := by kernel_rfl,
  t233 := Tryd.underlying84,
  a233 := Tryd.isAgg84,
  z233 := Tryd.sizeOf84,
  v233 := Tryd.zeroValue84,
  i233 := by kernel_rfl,
  g17 := by kernel_rfl,
  m17 := by kernel_rfl,
  g18 := by kernel_rfl,
  m18 := by kernel_rfl,
  g19 := by kernel_rfl,
  m19 := by kernel_rfl }

/-- The table of the powers of ten stands in this world. -/
def Tab (w : World) : Prop := Lib.TabIs Tryd.prog w "internal/strconv.uint64pow10" .u64 Lib.pow10Tab
theorem tab_name : Tryd.prog.globalNamed "internal/strconv.uint64pow10" = some 0 := by kernel_rfl
theorem Tab.lt {w : World} (h : Tab w) : 0 < w.heap.size := by
  unfold Tab Lib.TabIs World.var? at h
  rw [tab_name] at h
  simp only [Option.bind_some] at h
  cases hh : w.heap[0]? with
  | none => rw [hh] at h; cases h
  | some o => exact (Array.getElem?_eq_some_iff.1 hh).1
theorem Tab.block {w w' : World} (h : Tab w) (e : w'.heap[0]? = w.heap[0]?) : Tab w' := by
  unfold Tab Lib.TabIs World.var? at h ⊢
  rw [tab_name] at h ⊢
  simp only [Option.bind_some] at h ⊢
  rw [e]; exact h
theorem Tab.below {B : Nat} {w w' : World} (h : Tab w) (hB : 0 < B) (hb : Below B w w') : Tab w' := h.block (hb.block _ hB)
theorem Tab.later {w w' : World} (h : Tab w) (hb : Below w.heap.size w w') : Tab w' := h.below h.lt hb
theorem below_grow (w : World) (k : Nat) (os : Array Obj) : Below w.heap.size w (Sort.grow (w.drewN k) os) :=
  ⟨rfl, rfl, rfl, by rw [Sort.size_grow]; show w.heap.size ≤ w.heap.size + _; omega, fun b hb => by
    show ((w.drewN k).heap ++ os)[b]? = _
    rw [Array.getElem?_append_left (by show b < w.heap.size; exact hb)]; rfl⟩
theorem c_FormatInt (n : Int) (h0 : -9223372036854775808 ≤ n) (h1 : n ≤ 9223372036854775807) (w : World) (ht : Tab w) :
    Calls Tryd.prog 29 #[.int .i64 n, .int .i64 10] w fun e w' => e = .returned (.string ⟨(Lib.itoa n).toArray⟩) ∧ Below w.heap.size w w' :=
  (Any.strconv_FormatInt_10 fmLay n h0 h1 w ht).mono fun _ _ ⟨h, k, os, e⟩ => ⟨h, e ▸ below_grow w k os⟩
end Go.Proofs.YtajcdaclbammaaaDoor
