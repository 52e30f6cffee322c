/- strings.Join's contract, laid over this program: the table of numbers, and the facts that it asks. -/
import Derived.Test.YtbaomhneboojpaaDoorMem
import Derived.Shelf.Strings.OnBuilder
namespace Go.Proofs.YtbaomhneboojpaaDoor
open Go.Shelf Go.RowKit

def jnRen : Ren := ⟨fun | 156 => 18 | 165 => 28 | 166 => 29 | 169 => 30 | 240 => 37 | 241 => 38 | 276 => 49 | 277 => 50 | n => n, fun | 0 => 0 | 3 => 3 | 4 => 4 | 9 => 9 | 20 => 20 | 31 => 39 | 37 => 50 | 70 => 56 | 72 => 58 | 75 => 61 | 76 => 62 | 127 => 68 | 164 => 69 | 5 => 5 | 80 => 64 | n => n, fun n => n⟩
set_option maxRecDepth 100000 in
theorem jnLay : Lays.n156 Tryd.prog jnRen := {
  mixed := by kernel_rfl,
  f156 := Tryd.func18.trans (congrArg some (by kernel_rfl)),
  f165 := Tryd.func28.trans (congrArg some (by kernel_rfl)),
  f166 := Tryd.func29.trans (congrArg some (by kernel_rfl)),
  f169 := Tryd.func30.trans (congrArg some (by kernel_rfl)),
  f240 := Tryd.func37.trans (congrArg some (by kernel_rfl)),
  f241 := Tryd.func38.trans (congrArg some (by kernel_rfl)),
  f276 := Tryd.func49.trans (congrArg some (by kernel_rfl)),
  f277 := Tryd.func50.trans (congrArg some (by kernel_rfl)),
  t0 := Tryd.underlying0,
  a0 := Tryd.isAgg0,
  z0 := Tryd.sizeOf0,
  v0 := Tryd.zeroValue0,
  t3 := Tryd.underlying3,
  a3 := Tryd.isAgg3,
  z3 := Tryd.sizeOf3,
  v3 := Tryd.zeroValue3,
  t4 := Tryd.underlying4,
  a4 := Tryd.isAgg4,
  z4 := Tryd.sizeOf4,
  v4 := Tryd.zeroValue4,
  t9 := Tryd.underlying9,
  a9 := Tryd.isAgg9,
  z9 := Tryd.sizeOf9,
  v9 := Tryd.zeroValue9,
  t20 := Tryd.underlying20,
  a20 := Tryd.isAgg20,
  z20 := Tryd.sizeOf20,
  v20 := Tryd.zeroValue20,
  t31 := Tryd.underlying39,
  a31 := Tryd.isAgg39,
  z31 := Tryd.sizeOf39,
  v31 := Tryd.zeroValue39,
  t37 := Tryd.underlying50,
  a37 := Tryd.isAgg50,
  z37 := Tryd.sizeOf50,
  v37 := Tryd.zeroValue50,
  t70 := Tryd.underlying56,
  a70 := Tryd.isAgg56,
  z70 := Tryd.sizeOf56,
  v70 := Tryd.zeroValue56,
  t72 := Tryd.underlying58,
  a72 := Tryd.isAgg58,
  z72 := Tryd.sizeOf58,
  v72 := Tryd.zeroValue58,
  t75 := Tryd.underlying61,
  a75 := Tryd.isAgg61,
  z75 := Tryd.sizeOf61,
  v75 := Tryd.zeroValue61,
  t76 := Tryd.underlying62,
  a76 := Tryd.isAgg62,
  z76 := Tryd.sizeOf62,
  v76 := Tryd.zeroValue62,
  t127 := Tryd.underlying68,
  a127 := Tryd.isAgg68,
  z127 := Tryd.sizeOf68,
  v127 := Tryd.zeroValue68,
  t164 := Tryd.underlying69,
  a164 := Tryd.isAgg69,
  z164 := Tryd.sizeOf69,
  v164 := Tryd.zeroValue69 }
theorem jnExtra : Builder.Extra Tryd.prog jnRen := {
  sizeBuilder := by kernel_rfl,
  liesBuilder := by kernel_rfl,
  t5 := Tryd.underlying5,
  a5 := Tryd.isAgg5,
  z5 := Tryd.sizeOf5,
  v5 := Tryd.zeroValue5,
  infoByte := by kernel_rfl,
  cellsByte := by kernel_rfl,
  sizeByte := by kernel_rfl,
  neB5 := by decide }
theorem c_Join (bk o c : Nat) (xs : List ByteArray) (sep : ByteArray) (w : World) (hcells : ∀ (j : Nat) x, xs[j]? = some x → w.cell? ⟨bk, o + j, none⟩ = some (.string x)) (hbk : bk < w.heap.size) (hN : xs.length ≤ 140737488355328) (hcap : xs.length ≤ c)
    (hlen : (Lib.join (xs.map (·.data.toList)) sep.data.toList).length ≤ 140737488355328) :
    Calls Tryd.prog 18 #[.slice (some ⟨bk, o, none⟩) xs.length c, .string sep] w fun e w' => e = .returned (.string ⟨(Lib.join (xs.map (·.data.toList)) sep.data.toList).toArray⟩) ∧ Below w.heap.size w w' :=
  Any.strings_Join jnLay jnExtra bk o c xs sep w hcells hbk hN hcap hlen
end Go.Proofs.YtbaomhneboojpaaDoor
