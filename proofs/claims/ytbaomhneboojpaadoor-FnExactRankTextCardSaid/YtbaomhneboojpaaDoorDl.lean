/- strconv.FormatInt's contract (base 10), laid over this program: the table of numbers, and the facts that it asks. -/
import Derived.Test.YtbaomhneboojpaaDoorMem
import Derived.Shelf.Strconv.Itoa4
import Derived.Lib.LaidTab
namespace Go.Proofs.YtbaomhneboojpaaDoor
open Go.Shelf Go.RowKit

def fmRen : Ren := ⟨fun | 129 => 63 | 173 => 27 | 246 => 36 | 283 => 45 | 284 => 46 | 285 => 47 | 286 => 48 | 317 => 62 | 318 => 64 | 319 => 65 | 320 => 66 | 337 => 68 | 338 => 69 | n => n, fun | 0 => 0 | 2 => 2 | 3 => 3 | 4 => 4 | 5 => 5 | 9 => 9 | 20 => 20 | 37 => 50 | 46 => 100 | 51 => 97 | 53 => 82 | 171 => 81 | 173 => 85 | 212 => 96 | 213 => 98 | 232 => 103 | 233 => 104 | n => n, fun | 17 => 0 | 18 => 2 | 19 => 3 | n => n⟩
set_option maxRecDepth 100000 in
theorem fmLay : LaysM.n173 Tryd.prog fmRen := {
  mixed := by kernel_rfl,
  f129 := Tryd.func63.trans (congrArg some (by kernel_rfl)),
  f173 := Tryd.func27.trans (congrArg some (by kernel_rfl)),
  f246 := Tryd.func36.trans (congrArg some (by kernel_rfl)),
  f283 := Tryd.func45.trans (congrArg some (by kernel_rfl)),
  f284 := Tryd.func46.trans (congrArg some (by kernel_rfl)),
  f285 := Tryd.func47.trans (congrArg some (by kernel_rfl)),
  f286 := Tryd.func48.trans (congrArg some (by kernel_rfl)),
  f317 := Tryd.func62.trans (congrArg some (by kernel_rfl)),
  f318 := Tryd.func64.trans (congrArg some (by kernel_rfl)),
  f319 := Tryd.func65.trans (congrArg some (by kernel_rfl)),
  f320 := Tryd.func66.trans (congrArg some (by kernel_rfl)),
  f337 := Tryd.func68.trans (congrArg some (by kernel_rfl)),
  f338 := Tryd.func69.trans (congrArg some (by kernel_rfl)),
  t0 := Tryd.underlying0,
  a0 := Tryd.isAgg0,
  z0 := Tryd.sizeOf0,
  v0 := Tryd.zeroValue0,
  i0 := by kernel_rfl,
  t2 := Tryd.underlying2,
  a2 := Tryd.isAgg2,
  z2 := Tryd.sizeOf2,
  v2 := Tryd.zeroValue2,
  i2 := by kernel_rfl,
  t3 := Tryd.underlying3,
  a3 := Tryd.isAgg3,
  z3 := Tryd.sizeOf3,
  v3 := Tryd.zeroValue3,
  i3 := by kernel_rfl,
  t4 := Tryd.underlying4,
  a4 := Tryd.isAgg4,
  z4 := Tryd.sizeOf4,
  v4 := Tryd.zeroValue4,
  i4 := by kernel_rfl,
  t5 := Tryd.underlying5,
  a5 := Tryd.isAgg5,
  z5 := Tryd.sizeOf5,
  v5 := Tryd.zeroValue5,
  i5 := by kernel_rfl,
  t9 := Tryd.underlying9,
  a9 := Tryd.isAgg9,
  z9 := Tryd.sizeOf9,
  v9 := Tryd.zeroValue9,
  i9 := by kernel_rfl,
  t20 := Tryd.underlying20,
  a20 := Tryd.isAgg20,
  z20 := Tryd.sizeOf20,
  v20 := Tryd.zeroValue20,
  i20 := by kernel_rfl,
  t37 := Tryd.underlying50,
  a37 := Tryd.isAgg50,
  z37 := Tryd.sizeOf50,
  v37 := Tryd.zeroValue50,
  i37 := by kernel_rfl,
  t46 := Tryd.underlying100,
  a46 := Tryd.isAgg100,
  z46 := Tryd.sizeOf100,
  v46 := Tryd.zeroValue100,
  i46 := by kernel_rfl,
  t51 := Tryd.underlying97,
  a51 := Tryd.isAgg97,
  z51 := Tryd.sizeOf97,
  v51 := Tryd.zeroValue97,
  i51 := by kernel_rfl,
  t53 := Tryd.underlying82,
  a53 := Tryd.isAgg82,
  z53 := Tryd.sizeOf82,
  v53 := Tryd.zeroValue82,
  i53 := by kernel_rfl,
  t171 := Tryd.underlying81,
  a171 := Tryd.isAgg81,
  z171 := Tryd.sizeOf81,
  v171 := Tryd.zeroValue81,
  i171 := by kernel_rfl,
  t173 := Tryd.underlying85,
  a173 := Tryd.isAgg85,
  z173 := Tryd.sizeOf85,
  v173 := Tryd.zeroValue85,
  i173 := by kernel_rfl,
  t212 := Tryd.underlying96,
  a212 := Tryd.isAgg96,
  z212 := Tryd.sizeOf96,
  v212 := Tryd.zeroValue96,
  i212 := by kernel_rfl,
  t213 := Tryd.underlying98,
  a213 := Tryd.isAgg98,
  z213 := Tryd.sizeOf98,
  t232 := Tryd.underlying103,
  a232 := Tryd.isAgg103,
  z232 := Tryd.sizeOf103,
  v232 := Tryd.zeroValue103,
  i232 := by kernel_rfl,
  t233 := Tryd.underlying104,
  a233 := Tryd.isAgg104,
  z233 := Tryd.sizeOf104,
  v233 := Tryd.zeroValue104,
  i233 := by kernel_rfl,
  g17 := by kernel_rfl,
  m17 := by kernel_rfl,
  g18 := by kernel_rfl,
  m18 := by kernel_rfl,
  g19 := by kernel_rfl,
  m19 := by kernel_rfl }

/-- The table of the powers of ten stands in this world. -/
def Tab (w : World) : Prop := Lib.TabIs Tryd.prog w "internal/strconv.uint64pow10" .u64 Lib.pow10Tab
theorem tab_name : Tryd.prog.globalNamed "internal/strconv.uint64pow10" = some 0 := by kernel_rfl
theorem Tab.lt {w : World} (h : Tab w) : 0 < w.heap.size := by
  unfold Tab Lib.TabIs World.var? at h
  rw [tab_name] at h
  simp only [Option.bind_some] at h
  cases hh : w.heap[0]? with
  | none => rw [hh] at h; cases h
  | some o => exact (Array.getElem?_eq_some_iff.1 hh).1
theorem Tab.block {w w' : World} (h : Tab w) (e : w'.heap[0]? = w.heap[0]?) : Tab w' := by
  unfold Tab Lib.TabIs World.var? at h ⊢
  rw [tab_name] at h ⊢
  simp only [Option.bind_some] at h ⊢
  rw [e]; exact h
theorem Tab.below {B : Nat} {w w' : World} (h : Tab w) (hB : 0 < B) (hb : Below B w w') : Tab w' := h.block (hb.block _ hB)
theorem Tab.later {w w' : World} (h : Tab w) (hb : Below w.heap.size w w') : Tab w' := h.below h.lt hb
theorem below_grow (w : World) (k : Nat) (os : Array Obj) : Below w.heap.size w (Sort.grow (w.drewN k) os) :=
  ⟨rfl, rfl, rfl, by rw [Sort.size_grow]; show w.heap.size ≤ w.heap.size + _; omega, fun b hb => by
    show ((w.drewN k).heap ++ os)[b]? = _
    rw [Array.getElem?_append_left (by show b < w.heap.size; exact hb)]; rfl⟩
theorem c_FormatInt (n : Int) (h0 : -9223372036854775808 ≤ n) (h1 : n ≤ 9223372036854775807) (w : World) (ht : Tab w) :
    Calls Tryd.prog 27 #[.int .i64 n, .int .i64 10] w fun e w' => e = .returned (.string ⟨(Lib.itoa n).toArray⟩) ∧ Below w.heap.size w w' :=
  (Any.strconv_FormatInt_10 fmLay n h0 h1 w ht).mono fun _ _ ⟨h, k, os, e⟩ => ⟨h, e ▸ below_grow w k os⟩
end Go.Proofs.YtbaomhneboojpaaDoor
